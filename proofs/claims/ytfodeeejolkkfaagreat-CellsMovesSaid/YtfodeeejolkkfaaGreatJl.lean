/- The statement CellsMoves: whole numbers that are moved add up to what was there, and none falls below 0; for every input that can be read. -/
import Derived.Test.YtfodeeejolkkfaaGreatRows
import Derived.ProofKit
import Derived.OpenShut
import Derived.Lib.SlBytesRowKit
import Derived.Lib.SmallJoins
import Derived.Deep.Slices
import Derived.Deep.Fields
import Derived.ChangeMaps5
import Derived.Test.YtfodeeejolkkfaaGreatJf
import Derived.Test.YtfodeeejolkkfaaGreatJg
import Derived.Test.YtfodeeejolkkfaaGreatJj
import Derived.Test.YtfodeeejolkkfaaGreatJk
namespace Go.Proofs.YtfodeeejolkkfaaGreat
open Go.RowKit Go.Lib

theorem applyV_not {vs : Int → List (Int × List UInt8)} {k b : Int} {l : List (Int × List UInt8)} (h : b ∉ l.map Prod.fst) : applyV vs k l b = vs b := by
  induction l generalizing vs with
  | nil => rfl
  | cons p l ih =>
    simp only [List.map_cons, List.mem_cons, not_or] at h
    show applyV (addV vs p.1 (k, p.2)) k l b = _
    rw [ih h.2]
    simp [addV, h.1]
theorem applyV_mem {vs : Int → List (Int × List UInt8)} {k b : Int} {d : List UInt8} {l : List (Int × List UInt8)} (hn : (l.map Prod.fst).Nodup) (h : (b, d) ∈ l) : applyV vs k l b = vs b ++ [(k, d)] := by
  induction l generalizing vs with
  | nil => cases h
  | cons p l ih =>
    simp only [List.map_cons, List.nodup_cons] at hn
    show applyV (addV vs p.1 (k, p.2)) k l b = _
    rcases List.mem_cons.1 h with rfl | h
    · rw [applyV_not hn.1]
      simp [addV]
    · have hne : b ≠ p.1 := fun e => hn.1 (by rw [← e]; exact List.mem_map.2 ⟨_, h, rfl⟩)
      rw [ih hn.2 h]
      simp [addV, hne]
theorem bytT_last (l : List (Int × List UInt8)) {k t : Int} (d : List UInt8) (h : k ≤ t) : bytT (l ++ [(k, d)]) t = d := by
  unfold bytT verT
  rw [List.reverse_append]
  simp [h]
theorem putsL_fst (L : List (Int × Value)) (D : Int → List UInt8) : (putsL L D).map Prod.fst = sortI (L.map Prod.fst) := by
  unfold putsL
  rw [List.map_map]
  simp [Function.comp_def]
/-- a block's bytes behind a transaction. -/
theorem bytT_apply {L : List (Int × Value)} {D : Int → List UInt8} {vs : Int → List (Int × List UInt8)} {k t b : Int} (hn : (L.map Prod.fst).Nodup) (h : k ≤ t) : bytT (applyV vs k (putsL L D) b) t = if b ∈ L.map Prod.fst then D b else bytT (vs b) t := by
  have hp := sortI_perm (L.map Prod.fst)
  by_cases hb : b ∈ L.map Prod.fst
  · have hm : (b, D b) ∈ putsL L D := List.mem_map.2 ⟨b, hp.mem_iff.2 hb, rfl⟩
    have hnd : ((putsL L D).map Prod.fst).Nodup := by rw [putsL_fst]; exact hp.nodup_iff.2 hn
    rw [if_pos hb, applyV_mem hnd hm, bytT_last _ _ h]
  · rw [if_neg hb, applyV_not (by rw [putsL_fst]; exact fun hm => hb (hp.mem_iff.1 hm))]
/-- the blocks that a transaction sees are those alone that there are. -/
theorem Su.congr {w : World} {base : Nat} {d : Ids} {p : Par} {F : World → Prop} {q q' : Int → List UInt8} {L : List (Int × Value)} {n : Nat} (h : Su w base d p F q L n) (hq : ∀ b, 0 ≤ b → b < 258 → q b = q' b) : Su w base d p F q' L n :=
  ⟨h.env, h.tx, h.buf, h.keys, fun b h0 h1 => hq b h0 h1 ▸ h.blk b h0 h1, h.vw, h.sp, h.high⟩
theorem getL_keyn {L : List (Int × Value)} {k : Int} (h : k ∉ L.map Prod.fst) : getL L k = none := by
  cases hg : getL L k with
  | none => rfl
  | some v => exact absurd (List.mem_map.2 ⟨_, getL_memk hg, rfl⟩) h
/-- .. behind its own commit. -/
theorem Su.seen {w : World} {base : Nat} {d : Ids} {p : Par} {F : World → Prop} {q : Int → List UInt8} {L : List (Int × Value)} {n : Nat} {k t : Int} (h : Su w base d p F q L n) (hkt : k ≤ t) (ho : OldV p.Lv p.vs p.t) (hpt : p.t ≤ t) (b : Int) (h0 : 0 ≤ b) (h1 : b < 258) : bytT (applyV p.vs k (putsL L q) b) t = q b := by
  rw [bytT_apply h.buf.2.nodup hkt]
  by_cases hb : b ∈ L.map Prod.fst
  · rw [if_pos hb]
  · rw [if_neg hb]
    rcases h.blk b h0 h1 with ⟨-, e⟩ | ⟨g, c, e, -⟩
    · rw [e]
      unfold bytT verT
      have hall : ∀ x ∈ (p.vs b).reverse, x.1 ≤ p.t := fun x hx => ho.2 b x (List.mem_reverse.1 hx)
      have hf : ∀ (l : List (Int × List UInt8)), (∀ x ∈ l, x.1 ≤ p.t) → l.find? (fun x => decide (x.1 ≤ t)) = l.find? (fun x => decide (x.1 ≤ p.t)) := by
        intro l hl
        cases l with
        | nil => rfl
        | cons x l =>
          have h2 := hl x List.mem_cons_self
          rw [List.find?_cons_of_pos (by simp; omega), List.find?_cons_of_pos (by simp; omega)]
      rw [hf _ hall]
    · rw [getL_keyn hb] at e
      cases e
set_option maxRecDepth 100000 in
theorem round89_any (w : World) (i : Int) (_hi : -9223372036854775808 ≤ i ∧ i ≤ 9223372036854775807) : Calls Tryz.prog 17 #[.int .i64 i, .int .i64 1289] w fun e w' => ∃ m : Nat, m < 1289 ∧ e = .returned (.int .i64 m) ∧ w = w' := by
  have h1 : -1289 < i.tmod 1289 ∧ i.tmod 1289 < 1289 := by
    have := Int.tmod_lt_of_pos i (b := 1289) (by omega)
    have := Int.lt_tmod_of_pos i (b := 1289) (by omega)
    omega
  go_enter Tryz.func17, Tryz.ntmps17
  go_wp2_with fail
  · obtain ⟨m, hm⟩ : ∃ m : Nat, i.tmod 1289 + 1289 = m := ⟨(i.tmod 1289 + 1289).toNat, by omega⟩
    go_ret
    exact ⟨m, by omega, by rw [← hm]; rfl, rfl⟩
  · obtain ⟨m, hm⟩ : ∃ m : Nat, i.tmod 1289 = m := ⟨(i.tmod 1289).toNat, by omega⟩
    go_ret
    exact ⟨m, by omega, by rw [← hm]; rfl, rfl⟩
end Go.Proofs.YtfodeeejolkkfaaGreat
namespace Go.Proofs.YtfodeeejolkkfaaGreat
open Go.RowKit Go.Lib Ieee

/-- bits that are a whole number. -/
def WhB (b : Nat) (n : Int) : Prop := FinB b ∧ rv b = n * (T1 : Int)
theorem WhB.lt {b : Nat} {n : Int} (h : WhB b n) : b < 18446744073709551616 := h.1.1
theorem wh_int {n : Int} (h : n.natAbs ≤ 9007199254740992) : WhB (intB n) n := ⟨(int_rv h).1, (int_rv h).2.1⟩
theorem WhB.can {b : Nat} {n : Int} (h : WhB b n) : canB b = b := by
  unfold canB
  rw [if_neg (by rw [fin_not_nan h.1]; decide)]
theorem fin_negF {b : Nat} (h : FinB b) : FinB (negF b) ∧ rv (negF b) = - rv b := by
  have hb := h.1
  have hm := h.2
  unfold magB at hm
  by_cases h0 : 9223372036854775808 ≤ b
  · have e := negF_neg h0 hb
    have hlt : b - 9223372036854775808 < 9218868437227405312 := by omega
    obtain ⟨f1, f2, f3, f4⟩ := fin_num hlt
    rw [e]
    refine ⟨f1, ?_⟩
    have eb : 9223372036854775808 + (b - 9223372036854775808) = b := by omega
    rw [eb] at f4
    rw [f2, f4]
    omega
  · have e := negF_pos (b := b) (by omega)
    have hlt : b < 9218868437227405312 := by omega
    obtain ⟨f1, f2, f3, f4⟩ := fin_num hlt
    rw [e, f2, f4]
    exact ⟨f3, rfl⟩
theorem WhB.neg {b : Nat} {n : Int} (h : WhB b n) : WhB (negF b) (-n) := by
  obtain ⟨h1, h2⟩ := fin_negF h.1
  refine ⟨h1, ?_⟩
  rw [h2, h.2, Int.neg_mul]
theorem negF_negF {b : Nat} (h : b < 18446744073709551616) : negF (negF b) = b := by
  by_cases h0 : 9223372036854775808 ≤ b
  · rw [negF_neg h0 h, negF_pos (b := b - 9223372036854775808) (by omega)]; omega
  · rw [negF_pos (b := b) (by omega), negF_neg (b := 9223372036854775808 + b) (by omega) (by omega)]; omega
theorem addC_neg {a x : Nat} {m k : Int} (ha : WhB a m) (hx : WhB x k) (h : (m - k).natAbs ≤ 9007199254740992) : WhB (addC a (negF x)) (m - k) := by
  obtain ⟨g, hs, hp, hn⟩ := sub_rv ha.1 hx.1
  have e : rv a - rv x = (m - k) * (T1 : Int) := by rw [ha.2, hx.2, Int.sub_mul]
  rw [e] at hs hp hn
  have en : ((m - k) * (T1 : Int)).natAbs = (m - k).natAbs * T1 := by rw [Int.natAbs_mul, Int.natAbs_natCast]
  rw [en] at hs
  obtain ⟨i1, i2⟩ := int_rep h
  have hf := word_fin (s := g) i1
  have hv := word_rv (s := g) i1
  rw [i2] at hv
  have ea : addC a (negF x) = double.word g (rungOf ((m - k).natAbs * T1)) := by
    unfold addC
    rw [add_neg _ hx.lt, hs]
    show canB _ = _
    unfold canB
    rw [if_neg (by rw [fin_not_nan hf]; decide)]
  rw [ea]
  refine ⟨hf, ?_⟩
  rw [hv]
  have hT := T1_posI
  rcases Int.lt_trichotomy (m - k) 0 with h1 | h1 | h1
  · rw [hn (Int.mul_neg_of_neg_of_pos h1 hT)]
    unfold sgnI
    rw [if_pos rfl]
    rw [Int.natCast_mul, ← Int.neg_mul, show -((m - k).natAbs : Int) = m - k by omega]
  · rw [h1]
    rw [Int.zero_mul, Int.natAbs_zero, Nat.zero_mul]
    unfold sgnI
    split <;> rfl
  · rw [hp (Int.mul_pos h1 hT)]
    unfold sgnI
    rw [if_neg (by decide)]
    rw [Int.natCast_mul, show ((m - k).natAbs : Int) = m - k by omega]
theorem addC_wh {a x : Nat} {m k : Int} (ha : WhB a m) (hx : WhB x k) (h : (m + k).natAbs ≤ 9007199254740992) : WhB (addC a x) (m + k) := by
  have := addC_neg ha hx.neg (by rw [Int.sub_neg]; exact h)
  rw [negF_negF hx.lt, Int.sub_neg] at this
  exact this
theorem WhB.ge0 {b : Nat} {n : Int} (h : WhB b n) : ge0 b = decide (0 ≤ n) := by
  rw [ge0_fin h.1, h.2]
  have hT := T1_posI
  congr 1
  apply propext
  constructor
  · intro h0
    rcases Int.lt_or_le n 0 with h1 | h1
    · have := Int.mul_neg_of_neg_of_pos h1 hT
      omega
    · exact h1
  · intro h0
    exact Int.mul_nonneg h0 (by omega)
theorem WhB.toI {b : Nat} {n : Int} (h : WhB b n) : toI b = n := by
  have hw : IsWhole b := by
    have h2 := h.2
    unfold rv at h2
    unfold IsWhole
    have hd : (T1 : Int) ∣ (valR (magB b) : Int) := by
      unfold sgnI at h2
      split at h2
      · exact ⟨-n, by rw [Int.mul_comm, Int.neg_mul, ← h2]; omega⟩
      · exact ⟨n, by rw [Int.mul_comm, ← h2]⟩
    exact Nat.mod_eq_zero_of_dvd (Int.natCast_dvd_natCast.1 hd)
  have h3 := toI_whole hw
  rw [h.2] at h3
  have hT := T1_posI
  exact Int.eq_of_mul_eq_mul_right (by omega) h3
theorem WhB.toInt {b : Nat} {n : Int} (h : WhB b n) : (double.read b).toInt .zero = some n := by rw [toInt_fin h.1, h.toI]
theorem WhB.lt0 {b : Nat} {n : Int} (h : WhB b n) (h0 : 0 ≤ n) : (FloatKind.f64.format.order b 0 == some .lt) = false := by
  have ho : FloatKind.f64.format.order b 0 = some (compare (rv b) 0) := order_zero_fin h.1
  rw [ho, beq_eq_false_iff_ne]
  intro e
  have := Int.compare_eq_lt.1 (Option.some.inj e)
  rw [h.2] at this
  have := Int.mul_nonneg h0 (show (0 : Int) ≤ (T1 : Int) by have := T1_posI; omega)
  omega
/-- the sum of the first n. -/
def sumI (v : Nat → Int) : Nat → Int
  | 0 => 0
  | n + 1 => sumI v n + v n
/-- a function with one place new. -/
def updI (v : Nat → Int) (a : Nat) (x : Int) : Nat → Int := fun i => if i = a then x else v i
theorem sumI_not (v : Nat → Int) (a : Nat) (x : Int) : ∀ n, n ≤ a → sumI (updI v a x) n = sumI v n
  | 0, _ => rfl
  | n + 1, h => by
    simp only [sumI]
    rw [sumI_not v a x n (by omega)]
    unfold updI
    rw [if_neg (by omega)]
theorem sumI_upd (v : Nat → Int) (a : Nat) (x : Int) : ∀ n, a < n → sumI (updI v a x) n = sumI v n - v a + x
  | 0, h => by omega
  | n + 1, h => by
    simp only [sumI]
    by_cases e : a = n
    · subst e
      rw [sumI_not v a x a (Nat.le_refl _)]
      unfold updI
      rw [if_pos rfl]
      omega
    · rw [sumI_upd v a x n (by omega)]
      unfold updI
      rw [if_neg (by omega)]
      omega
theorem sumI_le (v : Nat → Int) : ∀ n, (∀ i, i < n → 0 ≤ v i) → ∀ i, i < n → v i ≤ sumI v n ∧ 0 ≤ sumI v n
  | 0, _, i, h => by omega
  | n + 1, hv, i, h => by
    have h0 := hv n (by omega)
    have hz : 0 ≤ sumI v n := by
      cases n with
      | zero => exact Int.le_refl _
      | succ m => exact (sumI_le v (m + 1) (fun j hj => hv j (by omega)) 0 (by omega)).2
    simp only [sumI]
    by_cases e : i = n
    · subst e; omega
    · have := sumI_le v n (fun j hj => hv j (by omega)) i (by omega)
      omega
/-- the first n cells are whole numbers, none below nought, that add up to all. -/
def Tot (f : Int → List Nat) (n : Nat) (all : Int) : Prop := ∃ v : Nat → Int, (∀ i, i < n → WhB (getF f i) (v i) ∧ 0 ≤ v i) ∧ sumI v n = all
theorem Tot.move {f : Int → List Nat} {n a b x : Nat} {all k : Int} (h : Tot f n all) (h5 : ∀ b, (f b).length = 5) (ha : a < n) (hb : b < n) (hx : WhB x k) (hk : 0 ≤ k ∧ k ≤ 1000000) (hall : all ≤ 1000000000) (hg : ge0 (addC (getF f a) (negF x)) = true) :
    Tot (setF (setF f a (addC (getF f a) (negF x))) b (addC (getF (setF f a (addC (getF f a) (negF x))) b) x)) n all := by
  obtain ⟨v, hv, hs⟩ := h
  have hle := sumI_le v n (fun i hi => (hv i hi).2)
  have h5' : ∀ c, (setF f a (addC (getF f a) (negF x)) c).length = 5 := fun c => by
    unfold setF
    split
    · rw [List.length_set]; exact h5 c
    · exact h5 c
  have va := hv a ha
  have vb := hv b hb
  have la := hle a ha
  have lb := hle b hb
  have hy : WhB (addC (getF f a) (negF x)) (v a - k) := addC_neg va.1 hx (by omega)
  have hz := hy.ge0
  rw [hg] at hz
  have hz0 : 0 ≤ v a - k := of_decide_eq_true hz.symm
  have e1 : ∀ i, i < n → WhB (getF (setF f a (addC (getF f a) (negF x))) i) (updI v a (v a - k) i) ∧ 0 ≤ updI v a (v a - k) i := fun i hi => by
    rw [getF_set _ _ _ _ h5]
    unfold updI
    by_cases e : i = a
    · rw [if_pos e, if_pos e]; exact ⟨hy, hz0⟩
    · rw [if_neg e, if_neg e]; exact hv i hi
  refine ⟨updI (updI v a (v a - k)) b (updI v a (v a - k) b + k), fun i hi => ?_, ?_⟩
  · rw [getF_set _ _ _ _ h5']
    have wb := e1 b hb
    have hub : updI v a (v a - k) b ≤ 1000000000 := by unfold updI; split <;> omega
    by_cases e : i = b
    · rw [if_pos e]
      unfold updI at wb hub ⊢
      rw [if_pos e]
      exact ⟨addC_wh wb.1 hx (by omega), by omega⟩
    · rw [if_neg e]
      have := e1 i hi
      unfold updI at this ⊢
      rw [if_neg e]
      exact this
  · rw [sumI_upd _ _ _ _ hb, sumI_upd _ _ _ _ ha]
    omega
end Go.Proofs.YtfodeeejolkkfaaGreat
namespace Go.Proofs.YtfodeeejolkkfaaGreat
open Go.RowKit Go.Lib Ieee

set_option maxRecDepth 100000 in
theorem roundn_any (w : World) (i : Int) (n : Nat) (hn0 : 0 < n) (hn1 : n ≤ 1000000) : Calls Tryz.prog 17 #[.int .i64 i, .int .i64 n] w fun e w' => ∃ m : Nat, m < n ∧ e = .returned (.int .i64 m) ∧ w = w' := by
  have h1 : -(n : Int) < i.tmod n ∧ i.tmod n < n := by
    have := Int.tmod_lt_of_pos i (b := n) (by omega)
    have := Int.lt_tmod_of_pos i (b := n) (by omega)
    omega
  have d0 : decide ((n : Int) = 0) = false := decide_eq_false (by omega)
  have d1 : ((n : Int) == 0) = false := beq_false_of_ne (by omega)
  have hw : IntKind.i64.wrap (i.tmod n) = i.tmod n := by rw [IntKind.wrap_i64]; omega
  have hne : (n : Int) ≠ 0 := by omega
  have hn2 : n ≠ 0 := by omega
  by_cases hneg : i.tmod n < 0
  · have dn : decide (i.tmod n < 0) = true := decide_eq_true hneg
    have hw2 : IntKind.i64.wrap (i.tmod n + n) = i.tmod n + n := by rw [IntKind.wrap_i64]; omega
    obtain ⟨m, hm⟩ : ∃ m : Nat, i.tmod n + n = m := ⟨(i.tmod n + n).toNat, by omega⟩
    rw [hm] at hw2
    go_enter Tryz.func17, Tryz.ntmps17
    go_wp2_with fail
    go_ret
    exact ⟨m, by omega, rfl, rfl⟩
  · have dn : decide (i.tmod n < 0) = false := decide_eq_false hneg
    obtain ⟨m, hm⟩ : ∃ m : Nat, i.tmod n = m := ⟨(i.tmod n).toNat, by omega⟩
    go_enter Tryz.func17, Tryz.ntmps17
    go_wp2_with fail
    go_ret
    exact ⟨m, by omega, by rw [← hm]; rfl, rfl⟩
theorem run_fromI (n : Int) (w : World) : (convert 3 42 (.int .i64 n)).run Tryz.prog w = .ok (.float .f64 (intB n)) w :=
  run_convert_int_float w 3 42 .i64 .f64 n (by rw [Tryz.underlying3]; rfl) Tryz.underlying42
theorem run_toW {b : Nat} {n : Int} (h : WhB b n) (h0 : 0 ≤ n) (h1 : n ≤ 1000000000) (w : World) : (convert 42 3 (.float .f64 b)).run Tryz.prog w = .ok (.int .i64 n) w := by
  refine run_convert_float_int w 42 3 .f64 .i64 b n (by rw [Tryz.underlying42]; rfl) Tryz.underlying3 ?_
  unfold floatToIntVal
  have e : (FloatKind.f64.decode b).toInt .zero = some n := h.toInt
  rw [e]
  simp only
  rw [if_pos]
  have e1 : IntKind.i64.min = -9223372036854775808 := by decide
  have e2 : IntKind.i64.max = 9223372036854775807 := by decide
  rw [e1, e2]
  omega
/-- the first cells' spans. -/
def spn (i : Nat) : List (Int × Int) := if i = 0 then [] else [(0, (((i - 1) / 5 + 1 : Nat) : Int))]
theorem spn_len (i : Nat) : (spn i).length ≤ 1 := by unfold spn; split <;> simp
theorem intB_lt (n : Nat) (h : n ≤ 9007199254740992) : intB n < 18446744073709551616 := (wh_int (n := (n : Int)) (by omega)).lt
theorem Tot.set {f : Int → List Nat} {i k : Nat} {all : Int} (h : Tot f i all) (h5 : ∀ b, (f b).length = 5) (hk : k ≤ 1000000) : Tot (setF f i (canB (intB k))) (i + 1) (all + k) := by
  obtain ⟨v, hv, hs⟩ := h
  have hw : WhB (intB k) (k : Int) := wh_int (by omega)
  refine ⟨updI v i k, fun j hj => ?_, ?_⟩
  · rw [getF_set _ _ _ _ h5, hw.can]
    unfold updI
    by_cases e : j = i
    · rw [if_pos e, if_pos e]; exact ⟨hw, by omega⟩
    · rw [if_neg e, if_neg e]; exact hv j (by omega)
  · simp only [sumI]
    rw [sumI_not _ _ _ _ (Nat.le_refl _), hs]
    unfold updI
    rw [if_pos rfl]
end Go.Proofs.YtfodeeejolkkfaaGreat
namespace Go.Proofs.YtfodeeejolkkfaaGreat
open Go.RowKit Go.Lib

/-- what holds of a store's numbers behind j steps; its cells are f. -/
structure Pln (s : Gs) (g : Gd) (f : Int → List Nat) (j : Nat) : Prop where
  out : s.out = 0
  rd : s.rd = false
  lastv : s.lastv = s.last
  given : s.given = s.last
  last : 0 ≤ s.last ∧ s.last ≤ j
  num : 0 ≤ s.num ∧ s.num ≤ j
  bl : 0 ≤ s.bl ∧ s.bl ≤ j
  old : ∀ b, ∀ x ∈ s.vs b, x.1 ≤ s.last
  small : ∀ b, (s.vs b).length ≤ j
  few : ∀ b, s.vs b ≠ [] → b < 4
  inn : g.inn = 1 ∨ g.inn = 0
  ops : 0 ≤ g.ops ∧ g.ops ≤ 500 * j + 10
  cnt : g.cnt ≤ j ∧ g.num ≤ j
  five : ∀ b, (f b).length = 5 ∧ ∀ x ∈ f b, CanB x
  blk : ∀ b, 0 ≤ b → b < 258 → bytT (s.vs b) s.last = packB (f b)
/-- its queue is empty. -/
def QNil (w : World) (lw : Nat) (s : Gs) : Prop := ∃ pq cq, s.qv = .slice pq 0 cq ∧ w.ownsRow lw 3 1 (.slice pq 0 cq) 0 []
theorem QNil.chg {w w' : World} {S : List Nat} {lw : Nat} {s : Gs} (h : QNil w lw s) (hc : Chg S w w') (hS : ∀ x ∈ S, ∀ cs, w.heap[x]? ≠ some (.cells cs 3 (0, 0))) : QNil w' lw s := by
  obtain ⟨pq, cq, e, h1⟩ := h
  exact ⟨pq, cq, e, own_chgB h1 hc (fun g hg hm => by obtain ⟨-, cur, hh⟩ := own_elem h1 hg; exact hS g hm cur hh)⟩
structure Rst (w : World) (lw : Nat) (d : Ids) (s : Gs) (g : Gd) (f : Int → List Nat) (j : Nat) : Prop where
  sto : Sto w lw d s g
  pl : Pln s g f j
  lb : s.Lb = []
  q : QNil w lw s
  lw : lw ≤ w.heap.size
structure Opn (w : World) (lw : Nat) (d : Ids) (s : Gs) (g : Gd) (f0 : Int → List Nat) (j base : Nat) (f : Int → List Nat) (N : Nat) (sl : List (Int × Int)) (c : Bool) : Prop where
  pl : Pln s g f0 j
  lb : s.Lb = []
  q : QNil w lw s
  low : lw ≤ base ∧ lw ≤ w.heap.size ∧ lw ≤ d.T
  lt : d.rx < base ∧ d.rb < base ∧ d.r < base
  my : My w base d (begP s) (StoF lw d (begS s d.T) g) f N sl c
theorem my_of {w : World} {base : Nat} {d : Ids} {p : Par} {F : World → Prop} {f : Int → List Nat} (h : Su w base d p F (fun b => packB (f b)) [] 0) (hv : VwX w base d.Q d.X d.W d.V p.t 0) (h5 : ∀ b, (f b).length = 5 ∧ ∀ x ∈ f b, CanB x) : My w base d p F f 0 [] false := by
  obtain ⟨v, l, s1, s2, s3⟩ := h.sp
  obtain rfl : l = [] := by cases l with | nil => rfl | cons a b => simp at s2
  exact ⟨[], ⟨⟨h.env, h.tx, h.buf, h.keys, h.blk, hv, ⟨v, s1, s3⟩, h.high⟩, h5⟩, (fun x hx => by cases hx), fun e => by cases e⟩
theorem opn_fresh {w' : World} {lw base : Nat} {d : Ids} {ops : Int} (h : Sc w' base d (begP (s00 lw)) (StoF lw d (begS (s00 lw) d.T) (g00 lw ops)) f0 [] 0) (hv : VwX w' base d.Q d.X d.W d.V 0 0) (hlt : d.rx < base ∧ d.rb < base ∧ d.r < base) (hT : lw ≤ d.T) (hb : lw ≤ base) (hl : lw ≤ w'.heap.size) (ho : 0 ≤ ops ∧ ops ≤ 2) : Opn w' lw d (s00 lw) (g00 lw ops) f0 0 base f0 0 [] false :=
  ⟨⟨rfl, rfl, rfl, rfl, ⟨Int.le_refl _, Int.le_refl _⟩, ⟨Int.le_refl _, Int.le_refl _⟩, ⟨Int.le_refl _, Int.le_refl _⟩, fun b x hx => (by cases hx), fun b => Nat.le_refl _, fun b hne => absurd rfl hne, Or.inl rfl, ⟨ho.1, by show ops ≤ _; omega⟩, ⟨Nat.le_refl _, Nat.le_refl _⟩, f0_five, fun b _ _ => zero_pack.symm⟩, rfl, ⟨none, 0, rfl, World.ownsRow_nil _ _ _ _⟩, ⟨hb, hl, hT⟩, hlt, my_of h.st hv f0_five⟩
theorem Opn.fr {w : World} {lw base j N : Nat} {d : Ids} {s : Gs} {g : Gd} {f0 f : Int → List Nat} {sl : List (Int × Int)} {c : Bool} (h : Opn w lw d s g f0 j base f N sl c) : Fr base d (begP s) (StoF lw d (begS s d.T) g) :=
  fr_sto h.lt ((getL_put _ _ _ _).trans (if_pos rfl)) rfl rfl rfl rfl
theorem Opn.step {w w' : World} {lw base j N N' : Nat} {d : Ids} {s : Gs} {g : Gd} {f0 f f' : Int → List Nat} {sl sl' : List (Int × Int)} {c c' : Bool} (h : Opn w lw d s g f0 j base f N sl c) (ho : Ow base w w') (hm : My w' base d (begP s) (StoF lw d (begS s d.T) g) f' N' sl' c') : Opn w' lw d s g f0 j base f' N' sl' c' := by
  refine ⟨h.pl, h.lb, ?_, ⟨h.low.1, Nat.le_trans h.low.2.1 ho.size, h.low.2.2⟩, h.lt, hm⟩
  obtain ⟨T, h1, h2⟩ := ho
  exact h.q.chg h1 (fun x hx cs hh => absurd ((h2 x hx).2 _ _ _ hh) (by decide))
theorem Opn.keep {w w' : World} {lw base j N : Nat} {d : Ids} {s : Gs} {g : Gd} {f0 f : Int → List Nat} {sl : List (Int × Int)} {c : Bool} (h : Opn w lw d s g f0 j base f N sl c) (hc : Chg [] w w') : Opn w' lw d s g f0 j base f N sl c :=
  h.step (Ow.of_chg hc) (h.my.keep h.fr hc)
theorem Rst.keep {w w' : World} {lw j : Nat} {d : Ids} {s : Gs} {g : Gd} {f : Int → List Nat} (h : Rst w lw d s g f j) (hc : Chg [] w w') : Rst w' lw d s g f j :=
  ⟨h.sto.keep hc, h.pl, h.lb, h.q.chg hc (fun x hx => by cases hx), Nat.le_trans h.lw hc.size⟩
theorem join_spn (i : Nat) (h : i < 20) : joinS (spn i) (i / 5 : Nat) 1 = spn (i + 1) := by
  have hs : spn (i + 1) = [(0, ((i / 5 + 1 : Nat) : Int))] := by unfold spn; rw [if_neg (by omega)]; simp
  rw [hs]
  by_cases h0 : i = 0
  · subst h0
    show joinS [] ((0 / 5 : Nat) : Int) 1 = _
    rw [joinS_ext (l := []) (b := ((0 / 5 : Nat) : Int)) (n := 1) (Or.inl rfl) (by decide) (by decide) (by decide)]
    rfl
  · have h1 : spn i = [(0, (((i - 1) / 5 + 1 : Nat) : Int))] := by unfold spn; rw [if_neg h0]
    rw [h1, joinS_ext (l := [(0, (((i - 1) / 5 + 1 : Nat) : Int))]) (b := ((i / 5 : Nat) : Int)) (n := 1) (Or.inr ⟨_, _, rfl, by omega, by omega, by omega, by omega⟩) (by omega) (by omega) (by omega)]
    unfold addSp
    simp only [List.cons.injEq, Prod.mk.injEq, true_and, and_true]
    omega
theorem rbegin (w : World) {lw j : Nat} {d : Ids} {s : Gs} {g : Gd} {f : Int → List Nat} (h : Rst w lw d s g f j) (hj : j ≤ 1000) :
    Calls Tryz.prog 28 #[.pointer (some ⟨d.P, 0, none⟩)] w fun e w' => e = .returned (.tuple #[.int .i64 (s.bl + 1), .int .i64 0]) ∧ ∃ d', d'.P = d.P ∧ Opn w' lw d' s g f j w.heap.size f 0 [] false ∧ Cs lw w w' := by
  have hp := h.pl
  have h1 := hp.last
  have h2 := hp.bl
  refine (sbegin_x w h.sto h.lb h1.1 (by omega) h2.1 (by omega)).mono ?_
  rintro e w' ⟨rfl, T, W, rw, Q, V, cs, hT, hSu, hV, k⟩
  have hm := h.sto.mx
  refine ⟨rfl, { d with T := T, W := W, rw := rw, Q := Q, V := V }, rfl, ⟨hp, h.lb, h.q.chg k (fun x hx cs hh => ?_), ⟨h.lw, Nat.le_trans h.lw cs.size, Nat.le_trans h.lw hT⟩, ⟨hm.ver.m.lt, hm.book.2.lt, hm.map.lt⟩, my_of (hSu.congr (q' := fun b => packB (f b)) hp.blk) hV hp.five⟩, cs⟩
  simp only [List.mem_cons, List.not_mem_nil, or_false] at hx
  rcases hx with rfl | rfl | rfl
  · rw [hm.book.1] at hh; cases hh
  · exact map_cells hm.book.2 hh rfl
  · exact map_cells hm.map hh rfl
theorem rabort (w : World) {lw base j N : Nat} {d : Ids} {s : Gs} {g : Gd} {f0 f : Int → List Nat} {sl : List (Int × Int)} {c : Bool} (h : Opn w lw d s g f0 j base f N sl c) :
    Calls Tryz.prog 29 #[.pointer (some ⟨d.P, 0, none⟩), .int .i64 (s.bl + 1)] w fun e w' => e = .returned (.int .i64 0) ∧ Rst w' lw d (abS (begS s d.T) (s.bl + 1)) g f0 (j + 1) ∧ Cs lw w w' := by
  obtain ⟨L, hy, -⟩ := h.my
  have hS : Sto w lw d (begS s d.T) g := hy.st.env
  refine (sabort_ok w (p := begP s) (t0 := s.last) h.fr hS hy.st.tx ((getL_put _ _ _ _).trans (if_pos rfl)) (if_pos rfl) h.low.2.2).mono ?_
  rintro e w' ⟨rfl, h1, h2, h3⟩
  have hp := h.pl
  refine ⟨rfl, ⟨h1, ⟨hp.out, hp.rd, hp.lastv, hp.given, ⟨hp.last.1, ?_⟩, ⟨hp.num.1, ?_⟩, ⟨?_, ?_⟩, hp.old, fun b => Nat.le_succ_of_le (hp.small b), hp.few, hp.inn, ⟨hp.ops.1, ?_⟩, ⟨Nat.le_succ_of_le hp.cnt.1, Nat.le_succ_of_le hp.cnt.2⟩, hp.five, hp.blk⟩, ?_, ?_, ?_⟩, h2⟩
  · have := hp.last.2; show s.last ≤ _; omega
  · have := hp.num.2; show s.num ≤ _; omega
  · have := hp.bl.1; show 0 ≤ s.bl + 1; omega
  · have := hp.bl.2; show s.bl + 1 ≤ _; omega
  · have := hp.ops.2; omega
  · show delL [(s.bl + 1, _)] (s.bl + 1) = []; simp [delL]
  · refine QNil.chg (s := abS (begS s d.T) (s.bl + 1)) h.q h3 (fun x hx cs hh => ?_)
    simp only [List.mem_cons, List.not_mem_nil, or_false] at hx
    rcases hx with rfl | rfl
    · have ht := hy.st.tx
      unfold TxT at ht
      rw [ht] at hh; cases hh
    · exact map_cells hS.mx.book.2 hh rfl
  · have := h.low; have := h2.size; omega
/-- a store with one transaction that waits: its cells will be f. -/
structure Wai (w : World) (lw : Nat) (d : Ids) (s : Gs) (g : Gd) (f0 : Int → List Nat) (j : Nat) (f : Int → List Nat) : Prop where
  pl : Pln s g f0 j
  lb : s.Lb = []
  low : lw ≤ w.heap.size ∧ lw ≤ d.T
  five : ∀ b, (f b).length = 5 ∧ ∀ x ∈ f b, CanB x
  tx : ∃ gq cq L, ∃ k : Nat, Sto w lw d (comS (begS s d.T) gq cq) g ∧ Wtx w d (comS (begS s d.T) gq cq) gq cq (s.bl + 1) k s.last s.last L (fun b => packB (f b)) ∧ (k : Int) = s.last + 1 ∧ 0 < L.length ∧ L.length ≤ 4 ∧ (∀ x ∈ L, x.1 < 4) ∧
    (∀ b, 0 ≤ b → b < 258 → bytT (applyV s.vs k (putsL L (fun b => packB (f b))) b) k = packB (f b))
theorem rcommit (w : World) {lw base j N : Nat} {d : Ids} {s : Gs} {g : Gd} {f0 f : Int → List Nat} {sl : List (Int × Int)} (h : Opn w lw d s g f0 j base f N sl true) (hN : N ≤ 90000) (hn : sl.length ≤ 12) (hj : j ≤ 1000) :
    Calls Tryz.prog 26 #[.pointer (some ⟨d.P, 0, none⟩), .int .i64 (s.bl + 1)] w fun e w' => e = .returned (.int .i64 0) ∧ Wai w' lw d s g f0 j f ∧ Cs lw w w' := by
  obtain ⟨L, hy, h4, h0⟩ := h.my
  have hS : Sto w lw d (begS s d.T) g := hy.st.env
  have hp := h.pl
  have hl := hp.last
  have hL4 := hy.four h4
  obtain ⟨pq, cq, hq1, hq2⟩ := h.q
  obtain ⟨k, hk⟩ : ∃ k : Nat, (k : Int) = s.last + 1 := ⟨(s.last + 1).toNat, by omega⟩
  have hsu := hy.st.su (n := 12) hN hn
  have ho : OldV s.Lv s.vs s.last := ⟨hS.keys, hp.old⟩
  have hlow := h.low
  refine (scommit_sto w (p := begP s) (n := 12) (k := k) (loq := lw) (pq := pq) (cq := cq) h.fr hsu hq1 hq2 (by omega) (Nat.le_refl _) hp.rd ho (by show s.given + 1 = _; rw [hp.given, hk]) (by show s.given < _; rw [hp.given]; omega) (by show 0 ≤ s.given; rw [hp.given]; omega) (by omega) (h0 rfl) (Nat.le_refl _) ((getL_put _ _ _ _).trans (if_pos rfl)) (if_pos rfl) h.low.2.2).mono ?_
  rintro e w' ⟨rfl, gq, cq', k1, k2, k3⟩
  refine ⟨rfl, ⟨hp, h.lb, ⟨by have := k3.size; omega, h.low.2.2⟩, hy.five, gq, cq', L, k, k1, k2, hk, h0 rfl, hL4, h4, fun b b0 b1 => ?_⟩, k3⟩
  exact hsu.seen (k := k) (t := k) (Int.le_refl _) ho (by show s.last ≤ _; omega) b b0 b1
theorem lv_few {w : World} {lw j : Nat} {d : Ids} {s s' : Gs} {g : Gd} {f : Int → List Nat} (hp : Pln s g f j) (h : Sto w lw d s' g) (e1 : s'.vs = s.vs) : s'.Lv.length ≤ 4 :=
  few4 h.mx.ver.m.nodup (fun p hp2 => by
    have hk := h.keys p hp2
    refine ⟨hk.1, ?_⟩
    rcases h.mx.ver.row p.1 hk.1 hk.2 with ⟨e, -⟩ | ⟨v, -, -, hne⟩
    · obtain ⟨v, hv⟩ := getL_key (List.mem_map.2 ⟨p, hp2, rfl⟩)
      rw [hv] at e; cases e
    · exact hp.few p.1 (by rw [← e1]; exact hne))
theorem rcheck (w : World) {lw j : Nat} {d : Ids} {s : Gs} {g : Gd} {f0 f : Int → List Nat} (h : Wai w lw d s g f0 j f) (hj : j ≤ 1000) :
    Calls Tryz.prog 30 #[.pointer (some ⟨d.P, 0, none⟩)] w fun e w' => e = .returned (.int .i64 0) ∧ ∃ g', Wai w' lw d s g' f0 (j + 1) f ∧ (g'.pos = 0 ∧ g'.zs 6 = []) ∧ Cs lw w w' := by
  obtain ⟨gq, cq, L, k, h1, h2, hk, h0, hL4, h4, hb⟩ := h.tx
  have hp := h.pl
  have hl := hp.last
  have hlv := lv_few hp h1 rfl
  obtain ⟨inn, i, a, hi, hinn⟩ : ∃ inn i a : Nat, ((inn = 1 ∧ i = 0 ∧ a = 0) ∨ (inn = 0 ∧ i = 1 ∧ a = 3)) ∧ g.inn = inn := by
    rcases hp.inn with e | e
    · exact ⟨1, 0, 0, Or.inl ⟨rfl, rfl, rfl⟩, e⟩
    · exact ⟨0, 1, 3, Or.inr ⟨rfl, rfl, rfl⟩, e⟩
  have hops := hp.ops
  have hcnt := hp.cnt
  refine (scheck_ok w (lst := s.last.toNat) h1 hi hinn (by omega) (show s.last = _ by omega) (by omega) hops.1 (by omega) (by omega) h.low.1).mono ?_
  rintro e w' ⟨rfl, tv, ops, dv, gs, ho, k1, k2⟩
  refine ⟨rfl, _, ⟨⟨hp.out, hp.rd, hp.lastv, hp.given, ⟨hl.1, by omega⟩, ⟨hp.num.1, by have := hp.num.2; omega⟩, ⟨hp.bl.1, by have := hp.bl.2; omega⟩, hp.old, fun b => Nat.le_succ_of_le (hp.small b), hp.few, ?_, ?_, ?_, hp.five, hp.blk⟩, h.lb, ⟨by have := k2.cs.size; have := h.low; omega, h.low.2⟩, h.five, gq, cq, L, k, k1, h2.keepW k2, hk, h0, hL4, h4, hb⟩, ⟨rfl, rfl⟩, k2.cs⟩
  · show (i : Int) = 1 ∨ (i : Int) = 0
    omega
  · show 0 ≤ ops ∧ ops ≤ _
    omega
  · show g.cnt + 1 ≤ _ ∧ 0 ≤ _
    omega
theorem applyV_or {L : List (Int × Value)} {D : Int → List UInt8} {vs : Int → List (Int × List UInt8)} {k : Int} (hn : (L.map Prod.fst).Nodup) (b : Int) : (b ∈ L.map Prod.fst ∧ applyV vs k (putsL L D) b = vs b ++ [(k, D b)]) ∨ applyV vs k (putsL L D) b = vs b := by
  have hp := sortI_perm (L.map Prod.fst)
  by_cases hb : b ∈ L.map Prod.fst
  · have hm : (b, D b) ∈ putsL L D := List.mem_map.2 ⟨b, hp.mem_iff.2 hb, rfl⟩
    have hnd : ((putsL L D).map Prod.fst).Nodup := by rw [putsL_fst]; exact hp.nodup_iff.2 hn
    exact Or.inl ⟨hb, applyV_mem hnd hm⟩
  · exact Or.inr (applyV_not (by rw [putsL_fst]; exact fun hm => hb (hp.mem_iff.1 hm)))
theorem rflush (w : World) {lw j : Nat} {d : Ids} {s : Gs} {g : Gd} {f0 f : Int → List Nat} (h : Wai w lw d s g f0 j f) (hz : g.pos = 0 ∧ g.zs 6 = []) (hj : j ≤ 100) :
    Calls Tryz.prog 27 #[.pointer (some ⟨d.P, 0, none⟩)] w fun e w' => e = .returned (.int .i64 0) ∧ ∃ s' g', Rst w' lw d s' g' f (j + 1) ∧ Cs lw w w' := by
  obtain ⟨gq, cq, L, k, h1, h2, hk, h0, hL4, h4, hb⟩ := h.tx
  have hp := h.pl
  have hl := hp.last
  have hops := hp.ops
  have hcnt := hp.cnt
  have hnum := hp.num
  have hbl := hp.bl
  have hlen := putsL_length L (fun b => packB (f b))
  have hnd := h2.buf.2.nodup
  refine (sflush_ok w (k := k) h1 h2 hp.out h.low.2 h.low.1 (by omega) (by show s.lastv < _; rw [hp.lastv]; omega) (by omega) (fun c => by have := hp.small c; show (s.vs c).length + 16 < _; omega) hnum.1 (by show s.num ≤ _; omega) (by rw [hz.2]; show 0 + _ + 1 ≤ 96; omega) (by rw [hz.1]; omega) hops.1 (by omega) (by omega) (by omega)).mono ?_
  rintro e w' ⟨rfl, z, Lv', v6, k1, k2, k3⟩
  have hor := fun b => applyV_or (D := fun b => packB (f b)) (vs := s.vs) (k := k) hnd b
  refine ⟨rfl, _, _, ⟨k1, ⟨rfl, hp.rd, rfl, ?_, ?_, ?_, ?_, fun b x hx => ?_, fun b => ?_, fun b hne => ?_, hp.inn, ?_, ?_, h.five, hb⟩, ?_, ⟨_, _, rfl, k3⟩, by have := k2.size; have := h.low; omega⟩, k2⟩
  · show s.given + 1 = (k : Int)
    rw [hp.given, hk]
  · show 0 ≤ (k : Int) ∧ (k : Int) ≤ _
    omega
  · show 0 ≤ s.num + 1 ∧ s.num + 1 ≤ _
    omega
  · show 0 ≤ s.bl + 1 ∧ s.bl + 1 ≤ _
    omega
  · have hx2 : x ∈ applyV s.vs k (putsL L (fun b => packB (f b))) b := hx
    show x.1 ≤ (k : Int)
    rcases hor b with ⟨-, e⟩ | e
    · rw [e] at hx2
      rcases List.mem_append.1 hx2 with hx3 | hx3
      · have := hp.old b x hx3; omega
      · rw [List.mem_singleton] at hx3; rw [hx3]; exact Int.le_refl _
    · rw [e] at hx2
      have := hp.old b x hx2; omega
  · show (applyV s.vs k (putsL L (fun b => packB (f b))) b).length ≤ _
    have := hp.small b
    rcases hor b with ⟨-, e⟩ | e
    · rw [e, List.length_append, List.length_singleton]; omega
    · rw [e]; omega
  · have hne2 : applyV s.vs k (putsL L (fun b => packB (f b))) b ≠ [] := hne
    rcases hor b with ⟨hm, -⟩ | e
    · obtain ⟨p, hp2, rfl⟩ := List.mem_map.1 hm
      exact h4 p hp2
    · rw [e] at hne2
      exact hp.few b hne2
  · show 0 ≤ g.ops + ((putsL L (fun b => packB (f b))).length : Int) + 2 ∧ g.ops + ((putsL L (fun b => packB (f b))).length : Int) + 2 ≤ _
    omega
  · show g.cnt ≤ _ ∧ g.num + 1 ≤ _
    omega
  · show delL [(s.bl + 1, _)] (s.bl + 1) = []; simp [delL]
end Go.Proofs.YtfodeeejolkkfaaGreat
namespace Go.Proofs.YtfodeeejolkkfaaGreat
open Go.RowKit Go.Lib Ieee

/-- a row of ints that is only read. -/
def IntsR (w : World) (v : Value) (m : Nat) : Prop := ∃ pa c, v = .slice pa m c ∧ m ≤ c ∧ ∀ j, j < m → ∃ g o x, pa = some ⟨g, o, none⟩ ∧ w.cell? ⟨g, o + j, none⟩ = some (.int .i64 x)
/-- the store of the law's world, with one open transaction. -/
def M1 (w0 : World) (K G P : Nat) (base : Nat) (d : Ids) (s : Gs) (g : Gd) (f0 : Int → List Nat) (j : Nat) (w : World) (f : Int → List Nat) (N : Nat) (sl : List (Int × Int)) (c : Bool) : Prop :=
  d.P = P ∧ Opn w w0.heap.size d s g f0 j base f N sl c ∧ WdAt w K P G 1 ∧ Chg [] w0 w
theorem M1.keep {w0 w w' : World} {K G P base j N : Nat} {d : Ids} {s : Gs} {g : Gd} {f0 f : Int → List Nat} {sl : List (Int × Int)} {c : Bool} (h : M1 w0 K G P base d s g f0 j w f N sl c) (hc : Chg [] w w') : M1 w0 K G P base d s g f0 j w' f N sl c :=
  ⟨h.1, h.2.1.keep hc, WdAt.keep h.2.2.1 (Ow.of_chg (base := base) hc), h.2.2.2.then hc⟩
theorem M1.ow {w0 w w' : World} {K G P base j N N' : Nat} {d : Ids} {s : Gs} {g : Gd} {f0 f f' : Int → List Nat} {sl sl' : List (Int × Int)} {c c' : Bool} (h : M1 w0 K G P base d s g f0 j w f N sl c) (ho : Ow base w w') (hm : My w' base d (begP s) (StoF w0.heap.size d (begS s d.T) g) f' N' sl' c') : M1 w0 K G P base d s g f0 j w' f' N' sl' c' :=
  ⟨h.1, h.2.1.step ho hm, h.2.2.1.keep ho, Ow.chg0 h.2.2.2 ho h.2.1.low.1⟩
theorem set_m (w : World) {w0 : World} {K G P base j i k : Nat} {d : Ids} {s : Gs} {g : Gd} {f0 f : Int → List Nat} {c : Bool} (h : M1 w0 K G P base d s g f0 j w f i (spn i) c) (hi : i < 20) (hk : k ≤ 1000000) (hb : s.bl = 0) :
    Calls Tryz.prog 19 #[.pointer (some ⟨P, 0, none⟩), .int .i64 1, .int .i64 i, .float .f64 (intB k)] w fun e w' => e = .returned (.int .i64 0) ∧ M1 w0 K G P base d s g f0 j w' (setF f i (canB (intB k))) (i + 1) (spn (i + 1)) true := by
  obtain ⟨rfl, h1, h2⟩ := id h
  have := (yset_in w h1.fr h1.my (by have := spn_len i; omega) (by omega) hi (intB_lt k (by omega)))
  rw [join_spn i hi, show (begP s).h = 1 from by show s.bl + 1 = 1; rw [hb]; rfl] at this
  refine this.mono ?_
  rintro e w' ⟨rfl, o, hm⟩
  exact ⟨rfl, h.ow o hm⟩
theorem get_m (w : World) {w0 : World} {K G P base j i : Nat} {d : Ids} {s : Gs} {g : Gd} {f0 f : Int → List Nat} {c : Bool} {hd : Int} (h : M1 w0 K G P base d s g f0 j w f i (spn i) c) (hi : i < 20) (hb : hd = s.bl + 1) :
    Calls Tryz.prog 21 #[.pointer (some ⟨P, 0, none⟩), .int .i64 hd, .int .i64 i] w fun e w' => e = .returned (.tuple #[.float .f64 (getF f i), .int .i64 0]) ∧ M1 w0 K G P base d s g f0 j w' f (i + 1) (spn (i + 1)) c := by
  obtain ⟨rfl, h1, h2⟩ := id h
  subst hb
  have := (yget_in w h1.fr h1.my (by have := spn_len i; omega) (by omega) hi)
  rw [join_spn i hi] at this
  refine this.mono ?_
  rintro e w' ⟨rfl, o, hm⟩
  exact ⟨rfl, h.ow o hm⟩
/-- .. at rest. -/
def M0 (w0 : World) (K G P : Nat) (w : World) (f : Int → List Nat) (j : Nat) : Prop :=
  ∃ d s g, d.P = P ∧ Rst w w0.heap.size d s g f j ∧ WdAt w K P G 1 ∧ Chg [] w0 w
theorem beg_m (w : World) {w0 : World} {K G P j : Nat} {f : Int → List Nat} (h : M0 w0 K G P w f j) (hj : j ≤ 1000) :
    Calls Tryz.prog 28 #[.pointer (some ⟨P, 0, none⟩)] w fun e w' => ∃ hd base d s g, e = .returned (.tuple #[.int .i64 hd, .int .i64 0]) ∧ hd = s.bl + 1 ∧ M1 w0 K G P base d s g f j w' f 0 [] false := by
  obtain ⟨d, s, g, rfl, h1, h2, h3⟩ := h
  refine (rbegin w h1 hj).mono ?_
  rintro e w' ⟨rfl, d', e1, o, cs⟩
  exact ⟨_, _, d', s, g, rfl, rfl, e1, o, cs.heap h2 (by decide), cs.chg0 h3 (Nat.le_refl _)⟩
theorem abort_m (w : World) {w0 : World} {K G P base j N : Nat} {d : Ids} {s : Gs} {g : Gd} {f0 f : Int → List Nat} {sl : List (Int × Int)} {c : Bool} {hd : Int} (h : M1 w0 K G P base d s g f0 j w f N sl c) (hb : hd = s.bl + 1) :
    Calls Tryz.prog 29 #[.pointer (some ⟨P, 0, none⟩), .int .i64 hd] w fun e w' => e = .returned (.int .i64 0) ∧ M0 w0 K G P w' f0 (j + 1) := by
  obtain ⟨rfl, h1, h2, h3⟩ := h
  subst hb
  refine (rabort w h1).mono ?_
  rintro e w' ⟨rfl, o, cs⟩
  exact ⟨rfl, d, _, g, rfl, o, cs.heap h2 (by decide), cs.chg0 h3 (Nat.le_refl _)⟩
/-- .. with one that waits. -/
def MW (w0 : World) (K G P : Nat) (w : World) (f : Int → List Nat) (j : Nat) (z : Bool) : Prop :=
  ∃ d s g f0, d.P = P ∧ Wai w w0.heap.size d s g f0 j f ∧ WdAt w K P G 1 ∧ Chg [] w0 w ∧ (z = true → g.pos = 0 ∧ g.zs 6 = [])
theorem com_m (w : World) {w0 : World} {K G P base j N : Nat} {d : Ids} {s : Gs} {g : Gd} {f0 f : Int → List Nat} {sl : List (Int × Int)} {hd : Int} (z : Bool) (h : M1 w0 K G P base d s g f0 j w f N sl true) (hb : hd = s.bl + 1) (hN : N ≤ 90000) (hn : sl.length ≤ 12) (hj : j ≤ 1000) (hz : z = true → g.pos = 0 ∧ g.zs 6 = []) :
    Calls Tryz.prog 26 #[.pointer (some ⟨P, 0, none⟩), .int .i64 hd] w fun e w' => e = .returned (.int .i64 0) ∧ MW w0 K G P w' f j z := by
  obtain ⟨rfl, h1, h2, h3⟩ := h
  subst hb
  refine (rcommit w h1 hN hn hj).mono ?_
  rintro e w' ⟨rfl, o, cs⟩
  exact ⟨rfl, d, s, g, f0, rfl, o, cs.heap h2 (by decide), cs.chg0 h3 (Nat.le_refl _), hz⟩
theorem chk_m (w : World) {w0 : World} {K G P j : Nat} {f : Int → List Nat} {z : Bool} (h : MW w0 K G P w f j z) (hj : j ≤ 1000) :
    Calls Tryz.prog 30 #[.pointer (some ⟨P, 0, none⟩)] w fun e w' => e = .returned (.int .i64 0) ∧ MW w0 K G P w' f (j + 1) true := by
  obtain ⟨d, s, g, f0, rfl, h1, h2, h3, -⟩ := h
  refine (rcheck w h1 hj).mono ?_
  rintro e w' ⟨rfl, g', o, hz, cs⟩
  exact ⟨rfl, d, s, g', f0, rfl, o, cs.heap h2 (by decide), cs.chg0 h3 (Nat.le_refl _), fun _ => hz⟩
theorem flu_m (w : World) {w0 : World} {K G P j : Nat} {f : Int → List Nat} (h : MW w0 K G P w f j true) (hj : j ≤ 100) :
    Calls Tryz.prog 27 #[.pointer (some ⟨P, 0, none⟩)] w fun e w' => e = .returned (.int .i64 0) ∧ M0 w0 K G P w' f (j + 1) := by
  obtain ⟨d, s, g, f0, rfl, h1, h2, h3, hz⟩ := h
  refine (rflush w h1 (hz rfl) hj).mono ?_
  rintro e w' ⟨rfl, s', g', o, cs⟩
  exact ⟨rfl, d, s', g', rfl, o, cs.heap h2 (by decide), cs.chg0 h3 (Nat.le_refl _)⟩
/-- a move of a whole number. -/
theorem mov_m (w : World) {w0 : World} {K G P base j a b k n : Nat} {d : Ids} {s : Gs} {g : Gd} {f : Int → List Nat} {hd all : Int} (h : M1 w0 K G P base d s g f j w f 0 [] false) (hb : hd = s.bl + 1) (ha : a < n) (hbn : b < n) (hn : n ≤ 20) (hk : k ≤ 1000000) (ht : Tot f n all) (hall : all ≤ 1000000000) :
    Calls Tryz.prog 25 #[.pointer (some ⟨P, 0, none⟩), .int .i64 hd, .int .i64 a, .int .i64 b, .float .f64 (intB k)] w fun e w' =>
      (e = .returned (.int .i64 0) ∧ ∃ f' sl', sl'.length ≤ 4 ∧ M1 w0 K G P base d s g f j w' f' 4 sl' true ∧ Tot f' n all) ∨ (e = .returned (.int .i64 15) ∧ ∃ f' sl', M1 w0 K G P base d s g f j w' f' 2 sl' true) := by
  obtain ⟨rfl, h1, h2⟩ := id h
  subst hb
  have hx : WhB (intB k) (k : Int) := wh_int (by omega)
  have hg : ge0 (intB k) = true := by rw [hx.ge0]; exact decide_eq_true (by omega)
  refine (ymove_in w h1.fr h1.my (by decide) (by decide) (by omega) (by omega) (intB_lt k (by omega)) hg (mag_max hx.1)).mono ?_
  rintro e w' ⟨o, ⟨hy, rfl, sl', hs, hm⟩ | ⟨-, rfl, f', sl', hm⟩⟩
  · exact Or.inl ⟨rfl, _, sl', by simpa using hs, h.ow o hm, ht.move (fun b => (h1.my.five b).1) ha hbn hx (by omega) hall hy⟩
  · exact Or.inr ⟨rfl, f', sl', h.ow o hm⟩
end Go.Proofs.YtfodeeejolkkfaaGreat
namespace Go.Proofs.YtfodeeejolkkfaaGreat
open Go.RowKit Go.Lib

set_option maxRecDepth 100000 in
set_option maxHeartbeats 8000000 in
theorem law6_any (i : Int) (v u : Nat) (w : World) (hi : -9223372036854775808 ≤ i ∧ i ≤ 9223372036854775807) (hv : v < 18446744073709551616) (hu : u < 18446744073709551616) :
    Calls Tryz.prog 6 #[.int .i64 i, .int .u64 v, .int .u64 u] w fun e w' => e = .returned (.bool true) ∧ Chg [] w w' := by
  have HR := Lib.hid (fun w => round89_any w i hi)
  have HV := Lib.hid (fun w => rfrom_any v w hv)
  have HU := Lib.hid (fun w => rfrom_any u w hu)
  have hx : canB v < 18446744073709551616 := (canB_can hv).1
  have hy : canB u < 18446744073709551616 := (canB_can hu).1
  have HX := Lib.hid hx
  have HY := Lib.hid hy
  have HXX := Lib.hid (canB_canB v)
  have HYY := Lib.hid (canB_canB u)
  clear hi hv hu hx hy
  generalize canB v = x at *
  generalize canB u = y at *
  go_enter Tryz.func6, Tryz.ntmps6
  go_wp2_with fail
  refine (fresh_any3 w).mono ?_
  rintro e w1 ⟨P, K, G, rfl, base, d, ops, hP, hsc, hlow, hdT, hbase, hw1, hops, k1⟩
  subst hP
  have htab : getL (begS (s00 w.heap.size) d.T).Lr (begP (s00 w.heap.size)).h = some (.pointer (some ⟨d.T, 0, none⟩)) := rfl
  have hfr := fr_sto (lw := w.heap.size) (base := base) (d := d) (s := begS (s00 w.heap.size) d.T) (g := g00 w.heap.size ops) (p := begP (s00 w.heap.size)) hlow htab rfl rfl rfl rfl
  have HFr := Lib.hid hfr
  have HSc := Lib.hid hsc
  have HLw := Lib.hid (And.intro hlow (And.intro hdT (And.intro hbase hops)))
  clear hfr hsc hlow hdT hbase hops htab
  go_wp2_with fail
  refine (HR.out w1).mono ?_
  rintro e w2 ⟨m, hm, rfl, rfl⟩
  have HM := Lib.hid hm
  clear hm
  go_wp2_with fail
  refine (HV.out w1).mono ?_
  rintro e w2 ⟨rfl, rfl⟩
  go_wp2_with fail
  refine (HU.out w1).mono ?_
  rintro e w2 ⟨rfl, rfl⟩
  have c0 : w1.cell? ⟨K, 0, none⟩ = some (.pointer (some ⟨d.P, 0, none⟩)) := cell_is hw1 0 rfl
  have c2 : w1.cell? ⟨K, 2, none⟩ = some (.int .i64 1) := cell_is hw1 2 rfl
  have hm1 : IntKind.i64.wrap ((m : Int) + 1) = (m : Int) + 1 := by rw [IntKind.wrap_i64]; have := HM.out; omega
  go_wp2_with fail
  have hs1 : ∀ wx, Chg [] w1 wx → Calls Tryz.prog 19 #[.pointer (some ⟨d.P, 0, none⟩), .int .i64 1, .int .i64 m, .float .f64 x] wx fun e w' => e = .returned (.int .i64 0) ∧ Ow base wx w' ∧ ∃ v1, Sc w' base d (begP (s00 w.heap.size)) (StoF w.heap.size d (begS (s00 w.heap.size) d.T) (g00 w.heap.size ops)) (setF f0 m x) (putL [] (m / 5 : Nat) v1) 1 := fun wx kx =>
    (gset_in wx (m := m) (x := x) HFr.out (HSc.out.keep HFr.out kx) (by omega) (by simp) (by have := HM.out; omega) HX.out).mono (by
      rintro e w' ⟨v1, rfl, ho, hs⟩
      rw [HXX.out] at hs
      exact ⟨rfl, ho, v1, hs⟩)
  have HS1 := Lib.hid hs1
  have hs2 : ∀ wx v1, Sc wx base d (begP (s00 w.heap.size)) (StoF w.heap.size d (begS (s00 w.heap.size) d.T) (g00 w.heap.size ops)) (setF f0 m x) (putL [] (m / 5 : Nat) v1) 1 → Calls Tryz.prog 19 #[.pointer (some ⟨d.P, 0, none⟩), .int .i64 1, .int .i64 ((m : Int) + 1), .float .f64 y] wx fun e w' => e = .returned (.int .i64 0) ∧ Ow base wx w' ∧ ∃ v2, Sc w' base d (begP (s00 w.heap.size)) (StoF w.heap.size d (begS (s00 w.heap.size) d.T) (g00 w.heap.size ops)) (setF (setF f0 m x) (m + 1) y) (putL (putL [] (m / 5 : Nat) v1) ((m + 1) / 5 : Nat) v2) 2 := fun wx v1 h2 =>
    (gset_in wx (m := m + 1) (x := y) HFr.out h2 (by omega) (Nat.le_trans (putL_len _ _ _) (by decide)) (by have := HM.out; omega) HY.out).mono (by
      rintro e w' ⟨v2, rfl, ho, hs⟩
      rw [HYY.out] at hs
      exact ⟨rfl, ho, v2, hs⟩)
  have HS2 := Lib.hid hs2
  clear hs1 hs2
  go_region_held3 (fun wx => wx.cell? ⟨K, 0, none⟩ = some (.pointer (some ⟨d.P, 0, none⟩)) ∧ wx.cell? ⟨K, 2, none⟩ = some (.int .i64 1))
    (first | (exact ⟨c0, c2⟩) | (exact ⟨cell_is hw2 0 rfl, cell_is hw2 2 rfl⟩) | (exact ⟨cell_is hw3 0 rfl, cell_is hw3 2 rfl⟩))
    (first
      | (go_at_call 19; (with_reducible refine Calls.mono (HS1.out w1.drew (Chg.refl [] w1).drew) ?_); rintro e w2 ⟨rfl, o2, v1, h2⟩; have hw2 := hw1.keep ((Ow.of_chg (base := base) (Chg.refl [] w1).drew).trans o2))
      | (go_at_call 19; (with_reducible refine Calls.mono (HS2.out w2 v1 h2) ?_); rintro e w3 ⟨rfl, o3, v2, h3⟩; have hw3 := hw2.keep o3))
  have k3 := Ow.chg0 k1.drew (o2.trans o3) HLw.out.2.2.1
  have hfm : getF (setF (setF f0 m x) (m + 1) y) m = x := by
    rw [getF_set _ _ _ _ (fun b => (h2.five b).1), if_neg (by omega), getF_set _ _ _ _ (fun b => (f0_five b).1), if_pos rfl]
  have hfn : getF (setF (setF f0 m x) (m + 1) y) (m + 1) = y := by
    rw [getF_set _ _ _ _ (fun b => (h2.five b).1), if_pos rfl]
  have hl0 : 0 < (putL (putL [] (m / 5 : Nat) v1) ((m + 1) / 5 : Nat) v2).length := by
    simp only [putL]
    split <;> simp
  have hl2 : (putL (putL [] (m / 5 : Nat) v1) ((m + 1) / 5 : Nat) v2).length ≤ 2 := Nat.le_trans (putL_len _ _ _) (Nat.succ_le_succ (putL_len _ _ _))
  have HFm := Lib.hid hfm
  have HFn := Lib.hid hfn
  have HL := Lib.hid (And.intro hl0 hl2)
  clear c0 c2 hm1 h2 hw2 o2 o3 k1 hw1 HSc HS1 HS2 hfm hfn hl0 hl2
  generalize putL (putL [] (m / 5 : Nat) v1) ((m + 1) / 5 : Nat) v2 = L at *
  generalize setF (setF f0 m x) (m + 1) y = f at *
  have hg : ∀ wx, Chg [] w3 wx → Calls Tryz.prog 21 #[.pointer (some ⟨d.P, 0, none⟩), .int .i64 1, .int .i64 m] wx fun e w' => e = .returned (.tuple #[.float .f64 x, .int .i64 0]) ∧ Ow base wx w' ∧ Sc w' base d (begP (s00 w.heap.size)) (StoF w.heap.size d (begS (s00 w.heap.size) d.T) (g00 w.heap.size ops)) f L 3 := fun wx kx =>
    (gget_in wx (m := m) HFr.out (h3.keep HFr.out kx) (by omega) (by have := HM.out; omega)).mono (by
      rintro e w' ⟨rfl, ho, hs⟩
      exact ⟨by rw [HFm.out], ho, hs⟩)
  have HG := Lib.hid hg
  clear hg h3
  have c0 : w3.cell? ⟨K, 0, none⟩ = some (.pointer (some ⟨d.P, 0, none⟩)) := cell_is hw3 0 rfl
  have c2 : w3.cell? ⟨K, 2, none⟩ = some (.int .i64 1) := cell_is hw3 2 rfl
  go_wp2_with fail
  go_region_held3 (fun wx => wx.cell? ⟨K, 0, none⟩ = some (.pointer (some ⟨d.P, 0, none⟩)) ∧ wx.cell? ⟨K, 2, none⟩ = some (.int .i64 1))
    (first | (exact ⟨c0, c2⟩) | (exact ⟨cell_is hw4 0 rfl, cell_is hw4 2 rfl⟩))
    (first
      | (go_at_call 21; (with_reducible refine Calls.mono (HG.out w3.drew (Chg.refl [] w3).drew) ?_); rintro e w4 ⟨rfl, o4, h4⟩; have hw4 := hw3.keep ((Ow.of_chg (base := base) (Chg.refl [] w3).drew).trans o4)))
  have k4 := Ow.chg0 k3.drew o4 HLw.out.2.2.1
  clear c0 c2 o4 hw3 k3 HG
  have c0 : w4.cell? ⟨K, 0, none⟩ = some (.pointer (some ⟨d.P, 0, none⟩)) := cell_is hw4 0 rfl
  have c2 : w4.cell? ⟨K, 2, none⟩ = some (.int .i64 1) := cell_is hw4 2 rfl
  have HSm := Lib.hid (fun w z => (same_any' z z w).mono (fun e w' (h : e = .returned (.bool ((canB z : Int) == (canB z : Int))) ∧ w = w') => (show e = .returned (.bool true) ∧ w = w' from ⟨by rw [h.1, beq_self_eq_true], h.2⟩)))
  go_wp2_with fail
  have hq : ∀ wx, Chg [] w4 wx → Calls Tryz.prog 26 #[.pointer (some ⟨d.P, 0, none⟩), .int .i64 1] wx fun e w' => e = .returned (.int .i64 0) ∧ ComR wx w' w.heap.size d (begS (s00 w.heap.size) d.T) (g00 w.heap.size ops) (begP (s00 w.heap.size)) L (fun b => packB (f b)) 1 := fun wx kx =>
    scommit_sto wx (loq := w.heap.size) (n := 3) (k := 1) HFr.out (h4.keep HFr.out kx).st rfl (World.ownsRow_nil _ _ _ _) (Nat.le_trans k4.size kx.size) (Nat.le_refl _) rfl ⟨fun p hp => (by cases hp), fun b x hx => (by cases hx)⟩ rfl (show (0 : Int) < 1099511627776 by decide) (show (0 : Int) ≤ 0 by decide) (by have := HL.out.2; omega) HL.out.1 (by decide) rfl rfl HLw.out.2.1
  have HC := Lib.hid hq
  have hfl : ∀ wx gq cq, Sto wx w.heap.size d (comS (begS (s00 w.heap.size) d.T) gq cq) (g00 w.heap.size ops) → Wtx wx d (comS (begS (s00 w.heap.size) d.T) gq cq) gq cq 1 1 0 0 L (fun b => packB (f b)) → w.heap.size ≤ wx.heap.size → Calls Tryz.prog 27 #[.pointer (some ⟨d.P, 0, none⟩)] wx fun e w' => e = .returned (.int .i64 0) ∧ FlushR wx w' w.heap.size d (comS (begS (s00 w.heap.size) d.T) gq cq) (g00 w.heap.size ops) 1 1 (putsL L (fun b => packB (f b))) := fun wx gq cq h5 hw5 hl5 =>
    sflush_ok wx (k := 1) h5 hw5 rfl HLw.out.2.1 hl5 (by decide) (show (0 : Int) < 1 by decide) (by decide) (fun c => (show 0 + 16 < 1000000 by decide)) (show (0 : Int) ≤ 0 by decide) (show (0 : Int) ≤ 100000000 by decide) (by show 0 + L.length + 1 ≤ 96; have := HL.out.2; omega) (by show 0 + L.length + 1 ≤ 96; have := HL.out.2; omega) (by have := HLw.out.2.2.2; show 0 ≤ ops; omega) (by have := HLw.out.2.2.2; show ops ≤ 100000; omega) (show 0 < 4294967296 by decide) (show 0 < 1000000000 by decide)
  have HFl := Lib.hid hfl
  have HS4 := Lib.hid (fun b h0 h1 => h4.st.seen (k := 1) (t := 1) (by decide) ⟨fun p hp => (by cases hp), fun b x hx => (by cases hx)⟩ (show (0 : Int) ≤ 1 by decide) b h0 h1)
  have H5 := Lib.hid h4.five
  clear hq hfl h4
  have kd4 : Chg [] w4 w4.drew := (Chg.refl [] w4).drew
  have hw4d : w4.drew.heap[K]? = some (.cells #[.pointer (some ⟨d.P, 0, none⟩), .pointer (some ⟨G, 0, none⟩), .int .i64 1] 48 (0, 0)) := hw4
  go_region_held3 (fun wx => wx.cell? ⟨K, 0, none⟩ = some (.pointer (some ⟨d.P, 0, none⟩)) ∧ wx.cell? ⟨K, 2, none⟩ = some (.int .i64 1))
    (first | (exact ⟨c0, c2⟩) | (exact ⟨cell_is hw5 0 rfl, cell_is hw5 2 rfl⟩) | (exact ⟨cell_is hw6 0 rfl, cell_is hw6 2 rfl⟩))
    (first
      | (go_at_call 22; (with_reducible refine Calls.mono (HSm.out w4.drew x) ?_); rintro e wz ⟨rfl, rfl⟩)
      | (go_at_call 26; (with_reducible refine Calls.mono (HC.out w4.drew kd4) ?_); rintro e w5 ⟨rfl, gq, cq, h5, ht5, cs5⟩; have hw5 := cs5.heap hw4d (by decide))
      | (go_at_call 27; have q5 := HFl.out w5 gq cq h5 ht5 (Nat.le_trans k4.size cs5.size); (with_reducible refine Calls.mono q5 ?_); rintro e w6 ⟨rfl, z6, Lv6, v6, h6, cs6, o6⟩; have hw6 := cs6.heap hw5 (by decide)))
  have k6 : Chg [] w w6 := cs6.chg0 (cs5.chg0 k4.drew (Nat.le_refl _)) (Nat.le_refl _)
  have hb : Calls Tryz.prog 28 #[.pointer (some ⟨d.P, 0, none⟩)] w6 fun e w' => e = .returned (.tuple #[.int .i64 2, .int .i64 0]) ∧ BegT w6 w' w.heap.size d (doneS (comS (begS (s00 w.heap.size) d.T) gq cq) z6 1 1 Lv6 (putsL L (fun b => packB (f b)))) (doneG (g00 w.heap.size ops) v6 1 (putsL L (fun b => packB (f b)))) :=
    sbegin_gen w6 h6 rfl (show (0 : Int) ≤ 1 by decide) (show (1 : Int) ≤ 1099511627776 by decide) (show (0 : Int) ≤ 1 by decide) (show (1 : Int) ≤ 1000000 by decide)
  have HB := Lib.hid hb
  have HLt := Lib.hid (show d.rx < w6.heap.size ∧ d.rb < w6.heap.size ∧ d.r < w6.heap.size from ⟨h6.mx.ver.m.lt, h6.mx.book.2.lt, h6.mx.map.lt⟩)
  have HK6 := Lib.hid (Nat.le_trans k4.size (Nat.le_trans cs5.size cs6.size) : w.heap.size ≤ w6.heap.size)
  clear hb h6 o6 h5 ht5 cs5 cs6 k4 c0 c2 HC HFl HFr hw4 hw4d hw5 kd4 q5
  have c0 : w6.cell? ⟨K, 0, none⟩ = some (.pointer (some ⟨d.P, 0, none⟩)) := cell_is hw6 0 rfl
  have hm := HM.out
  go_wp2_with fail
  refine HB.out.mono ?_
  rintro e w7 ⟨rfl, T2, W2, rw2, Q2, V2, cs7, hT2, hSu⟩
  have hw7 := cs7.heap hw6 (by decide)
  have k7 : Chg [] w w7 := cs7.chg0 k6 (Nat.le_refl _)
  have htab : getL (begS (doneS (comS (begS (s00 w.heap.size) d.T) gq cq) z6 1 1 Lv6 (putsL L (fun b => packB (f b)))) T2).Lr (begP (doneS (comS (begS (s00 w.heap.size) d.T) gq cq) z6 1 1 Lv6 (putsL L (fun b => packB (f b))))).h = some (.pointer (some ⟨T2, 0, none⟩)) := (getL_put _ _ _ _).trans (if_pos rfl)
  have hfr := fr_sto (lw := w.heap.size) (base := w6.heap.size) (d := { d with T := T2, W := W2, rw := rw2, Q := Q2, V := V2 }) (g := doneG (g00 w.heap.size ops) v6 1 (putsL L (fun b => packB (f b)))) HLt.out htab rfl rfl rfl rfl
  have hsc : Sc w7 w6.heap.size _ _ _ f [] 0 := ⟨hSu.congr (q' := fun b => packB (f b)) HS4.out, H5.out⟩
  have hg1 : Calls Tryz.prog 21 #[.pointer (some ⟨d.P, 0, none⟩), .int .i64 2, .int .i64 m] w7 fun e w' => e = .returned (.tuple #[.float .f64 x, .int .i64 0]) ∧ Ow w6.heap.size w7 w' ∧ Calls Tryz.prog 21 #[.pointer (some ⟨d.P, 0, none⟩), .int .i64 2, .int .i64 ((m : Int) + 1)] w' fun e w'' => e = .returned (.tuple #[.float .f64 y, .int .i64 0]) ∧ Ow w6.heap.size w' w'' :=
    (gget_in w7 (m := m) hfr hsc (by omega) (by omega)).mono (by
      rintro e w' ⟨rfl, ho, hs⟩
      refine ⟨by rw [HFm.out], ho, ?_⟩
      exact (gget_in w' (m := m + 1) hfr hs (by omega) (by omega)).mono (by
        rintro e w'' ⟨rfl, ho', hs'⟩
        exact ⟨by rw [HFn.out], ho'⟩))
  have HG := Lib.hid hg1
  clear hg1 hsc hfr htab hSu c0 HB cs7 k6 hw6
  have c0 : w7.cell? ⟨K, 0, none⟩ = some (.pointer (some ⟨d.P, 0, none⟩)) := cell_is hw7 0 rfl
  go_wp2_with fail
  refine HG.out.mono ?_
  rintro e w8 ⟨rfl, o8, h8⟩
  have hw8 : WdAt w8 K d.P G 1 := WdAt.keep (show WdAt w7 K d.P G 1 from hw7) o8
  have k8 := Ow.chg0 k7 o8 HK6.out
  have H8 := Lib.hid h8
  clear h8 o8 k7 hw7 c0 HG
  have c0 : w8.cell? ⟨K, 0, none⟩ = some (.pointer (some ⟨d.P, 0, none⟩)) := cell_is hw8 0 rfl
  go_wp2_with fail
  refine H8.out.mono ?_
  rintro e w9 ⟨rfl, o9⟩
  have k9 := Ow.chg0 k8 o9 HK6.out
  clear H8 o9 k8 hw8 c0
  go_wp2_with fail
  refine (HSm.out w9 x).mono ?_
  rintro e wz ⟨rfl, rfl⟩
  go_wp2_with fail
  refine (HSm.out w9 y).mono ?_
  rintro e wz ⟨rfl, rfl⟩
  go_wp2_with fail
  refine (awake_any w9).mono ?_
  rintro e w10 ⟨rfl, k10⟩
  go_wp2_with fail
  go_ret
  exact ⟨rfl, k9.then k10⟩
end Go.Proofs.YtfodeeejolkkfaaGreat
namespace Go.Proofs.YtfodeeejolkkfaaGreat
open Go.RowKit Go.Lib Ieee

theorem M0.keep {w0 w w' : World} {K G P j : Nat} {f : Int → List Nat} (h : M0 w0 K G P w f j) (hc : Chg [] w w') : M0 w0 K G P w' f j := by
  obtain ⟨d, s, g, e, h1, h2, h3⟩ := h
  exact ⟨d, s, g, e, h1.keep hc, WdAt.keep h2 (Ow.of_chg (base := 0) hc), h3.then hc⟩
theorem sumI_mono (v : Nat → Int) : ∀ n, (∀ i, i < n → 0 ≤ v i) → ∀ t, t ≤ n → 0 ≤ sumI v t ∧ sumI v t ≤ sumI v n
  | 0, _, t, h => by
    obtain rfl : t = 0 := by omega
    exact ⟨Int.le_refl _, Int.le_refl _⟩
  | n + 1, hv, t, h => by
    have h0 := hv n (by omega)
    have hn := sumI_mono v n (fun i hi => hv i (by omega)) n (Nat.le_refl _)
    by_cases e : t = n + 1
    · subst e
      simp only [sumI]
      omega
    · have := sumI_mono v n (fun i hi => hv i (by omega)) t (by omega)
      simp only [sumI]
      omega
theorem tot_zero (f : Int → List Nat) : Tot f 0 0 := ⟨fun _ => 0, fun i h => by omega, rfl⟩
set_option maxRecDepth 100000 in
set_option maxHeartbeats 40000000 in
theorem law7_in (w : World) {m n : Nat} {lv fv : Value} (hl : IntsR w lv m) (hf : IntsR w fv n) (hm : m ≤ 40) (hn0 : 0 < n) (hn : n ≤ 20) : Calls Tryz.prog 7 #[lv, fv] w fun e w' => e = .returned (.bool true) ∧ Chg [] w w' := by
  obtain ⟨pl, cl, rfl, hcl, hlx⟩ := hl
  obtain ⟨pf, cf, rfl, hcf, hfx⟩ := hf
  obtain ⟨gf, og, x0, rfl, -⟩ := hfx 0 hn0
  have HLx := Lib.hid hlx
  have HFx : Hid (∀ j, j < n → ∃ x, w.cell? ⟨gf, og + j, none⟩ = some (.int .i64 x)) := Lib.hid (fun j hj => by
    obtain ⟨g, o, x, e, hc⟩ := hfx j hj
    cases e
    exact ⟨x, hc⟩)
  clear hlx hfx
  have q1 : ¬ ((40 : Int) < m) := by omega
  have q2 : ¬ ((n : Int) = 0) := by omega
  have q3 : ((n : Int) == 0) = false := beq_eq_false_iff_ne.2 q2
  have q4 : ¬ ((20 : Int) < n) := by omega
  have d1 : decide ((40 : Int) < m) = false := decide_eq_false q1
  have d2 : decide ((n : Int) = 0) = false := decide_eq_false q2
  have d4 : decide ((20 : Int) < n) = false := decide_eq_false q4
  have hcf1 : (n : Int) ≤ cf := by omega
  have hcl1 : (m : Int) ≤ cl := by omega
  go_enter Tryz.func7, Tryz.ntmps7
  go_wp2_with fail
  refine (fresh_x w).mono ?_
  rintro e w1 ⟨P, K, G, rfl, base, d, ops, hP, hsc, hvx, hlow, hdT, hbase, hw1, hops, k1⟩
  have hM : M1 w K G P base d (s00 w.heap.size) (g00 w.heap.size ops) f0 0 w1 f0 0 (spn 0) false := ⟨hP, opn_fresh hsc hvx hlow hdT hbase k1.size hops, hw1, k1⟩
  have HM := Lib.hid hM
  clear hM hsc hvx hlow hdT hbase hw1 hops k1 hP
  go_wp2_with fail
  go_loopw [7, 8, 9] (fun al ii _ wr => ∃ (i : Nat) (a : Int) (f : Int → List Nat), i ≤ n ∧ ii = .int .i64 i ∧ al = .int .i64 a ∧ M1 w K G P base d (s00 w.heap.size) (g00 w.heap.size ops) f0 0 wr f i (spn i) (decide (0 < i)) ∧ Tot f i a ∧ a ≤ i * 1000000 ∧ 0 ≤ a) (fun _ ii _ _ => n - (intOf ii).toNat)
  case atStart => exact ⟨0, 0, f0, by omega, rfl, rfl, HM.out, tot_zero _, by omega, by omega⟩
  case round =>
    obtain ⟨i, a, f, hi, rfl, rfl, hM, hT, ha, ha0⟩ := hrel
    clear HM
    by_cases hlt : i < n
    · have hlti : (i : Int) < n := by omega
      obtain ⟨x, hx⟩ := HFx.out i hlt
      have hxr := hM.2.2.2.cell hx (by simp)
      clear hx
      have HM := Lib.hid hM
      have HT := Lib.hid hT
      have HA := Lib.hid (And.intro ha ha0)
      clear hM hT ha ha0
      go_wp2_with fail
      refine (roundn_any wr x 1000000 (by decide) (by decide)).mono ?_
      rintro e w2 ⟨k, hk, rfl, rfl⟩
      have hw1 : IntKind.i64.wrap (a + (k : Int)) = a + k := by rw [IntKind.wrap_i64]; have := HA.out; omega
      have hcv := run_fromI (k : Int)
      have c0 : wr.cell? ⟨K, 0, none⟩ = some (.pointer (some ⟨P, 0, none⟩)) := cell_is HM.out.2.2.1 0 rfl
      have c2 : wr.cell? ⟨K, 2, none⟩ = some (.int .i64 1) := cell_is HM.out.2.2.1 2 rfl
      have HS := Lib.hid (fun wx (kx : Chg [] wr wx) => set_m wx (HM.out.keep kx) (show i < 20 by omega) (show k ≤ 1000000 by omega) rfl)
      have HK := Lib.hid hk
      clear hk
      go_wp2_with fail
      have kd : Chg [] wr wr.drew := (Chg.refl [] wr).drew
      go_region_held3 (fun wx => wx.cell? ⟨K, 0, none⟩ = some (.pointer (some ⟨P, 0, none⟩)) ∧ wx.cell? ⟨K, 2, none⟩ = some (.int .i64 1))
        (first | (exact ⟨c0, c2⟩) | (exact ⟨cell_is h3.2.2.1 0 rfl, cell_is h3.2.2.1 2 rfl⟩))
        (first
          | (go_at_call 19; (with_reducible refine Calls.mono (HS.out wr.drew kd) ?_); rintro e w3 ⟨rfl, h3⟩))
      have H3 := Lib.hid h3
      have HT3 := Lib.hid (HT.out.set (k := k) (fun b => (HM.out.2.1.my.five b).1) (by have := HK.out; omega))
      clear h3 HS HM HT c0 c2 hcv
      have hwi : IntKind.i64.wrap ((i : Int) + 1) = ((i + 1 : Nat) : Int) := by rw [IntKind.wrap_i64]; omega
      go_wp2_with fail
      go_roundw
      case rel => exact ⟨i + 1, a + k, _, hlt, by go_num, rfl, by rw [show decide (0 < i + 1) = true from decide_eq_true (by omega)]; exact H3.out, HT3.out, by have := HA.out; have := HK.out; omega, by have := HA.out; omega⟩
      case measure => simp [intOf]; omega
    · obtain rfl : i = n := by omega
      rw [show decide (0 < i) = true from decide_eq_true hn0] at hM
      have HC := Lib.hid (fun wx (kx : Chg [] wr wx) => com_m wx (hd := 1) true (hM.keep kx) rfl (by omega) (by have := spn_len i; omega) (by decide) (fun _ => ⟨rfl, rfl⟩))
      have HF := Lib.hid (fun wx h => flu_m (K := K) (G := G) (P := P) (w0 := w) (f := f) (j := 0) wx h (by decide))
      have c0 : wr.cell? ⟨K, 0, none⟩ = some (.pointer (some ⟨P, 0, none⟩)) := cell_is hM.2.2.1 0 rfl
      have c2 : wr.cell? ⟨K, 2, none⟩ = some (.int .i64 1) := cell_is hM.2.2.1 2 rfl
      have HT := Lib.hid hT
      have HA := Lib.hid (And.intro ha ha0)
      clear hM hT ha ha0
      have kd : Chg [] wr wr.drew := (Chg.refl [] wr).drew
      go_wp2_with fail
      go_region_held3 (fun wx => wx.cell? ⟨K, 0, none⟩ = some (.pointer (some ⟨P, 0, none⟩)) ∧ wx.cell? ⟨K, 2, none⟩ = some (.int .i64 1))
        (first | (exact ⟨c0, c2⟩) | (exact hp3) | (exact hp4))
        (first
          | (go_at_call 26; (with_reducible refine Calls.mono (HC.out wr.drew kd) ?_); rintro e w3 ⟨rfl, h3⟩; have hp3 : w3.cell? ⟨K, 0, none⟩ = some (.pointer (some ⟨P, 0, none⟩)) ∧ w3.cell? ⟨K, 2, none⟩ = some (.int .i64 1) := by (obtain ⟨_, _, _, _, _, _, hw, _⟩ := h3; exact ⟨cell_is hw 0 rfl, cell_is hw 2 rfl⟩))
          | (go_at_call 27; (with_reducible refine Calls.mono (HF.out w3 h3) ?_); rintro e w4 ⟨rfl, h4⟩; have hp4 : w4.cell? ⟨K, 0, none⟩ = some (.pointer (some ⟨P, 0, none⟩)) ∧ w4.cell? ⟨K, 2, none⟩ = some (.int .i64 1) := by (obtain ⟨_, _, _, _, _, hw, _⟩ := h4; exact ⟨cell_is hw 0 rfl, cell_is hw 2 rfl⟩)))
      have H4 := Lib.hid h4
      clear h4 h3 HC HF c0 c2 hp3 hp4
      go_wp2_with fail
      go_loopw [10, 11, 12, 13, 14, 15] (fun ii _ _ _ _ _ wr => ∃ (q : Nat) (f' : Int → List Nat) (j : Nat), q ≤ m ∧ ii = .int .i64 q ∧ M0 w K G P wr f' j ∧ j ≤ 1 + 2 * q ∧ Tot f' i a) (fun ii _ _ _ _ _ _ => m - (intOf ii).toNat)
      case atStart => exact ⟨0, f, 1, by omega, rfl, H4.out, by omega, HT.out⟩
      case round =>
        obtain ⟨q, f', j, hq, rfl, hM, hj, hT⟩ := hrel
        by_cases hltq : q < m
        · have hltq2 : (q : Int) < m := by omega
          obtain ⟨gl, ol, x, rfl, hx⟩ := HLx.out q hltq
          have c0 : wr.cell? ⟨K, 0, none⟩ = some (.pointer (some ⟨P, 0, none⟩)) := by (obtain ⟨_, _, _, _, _, hw, _⟩ := hM; exact cell_is hw 0 rfl)
          have HB := Lib.hid (beg_m wr hM (by omega))
          have HT2 := Lib.hid hT
          clear hM hT
          go_wp2_with fail
          refine HB.out.mono ?_
          rintro e w2 ⟨hd, bs, d2, s2, g2, rfl, hb, h2⟩
          have hx2 := h2.2.2.2.cell hx (by simp)
          have c2 : w2.cell? ⟨K, 0, none⟩ = some (.pointer (some ⟨P, 0, none⟩)) := cell_is h2.2.2.1 0 rfl
          have H2 := Lib.hid h2
          have HHb := Lib.hid hb
          clear h2 hb c0 HB hx
          go_wp2_with fail
          refine (roundn_any w2 x i hn0 (by omega)).mono ?_
          rintro e w3 ⟨a1, ha1, rfl, rfl⟩
          have HA1 := Lib.hid ha1
          clear ha1
          go_wp2_with fail
          refine (roundn_any w2 _ i hn0 (by omega)).mono ?_
          rintro e w3 ⟨a2, ha2, rfl, rfl⟩
          have HA2 := Lib.hid ha2
          clear ha2
          go_wp2_with fail
          refine (roundn_any w2 _ 2000 (by decide) (by decide)).mono ?_
          rintro e w3 ⟨k, hk, rfl, rfl⟩
          have hcv := run_fromI (k : Int)
          have HMv := Lib.hid (mov_m (k := k) w2 H2.out HHb.out HA1.out HA2.out hn (by omega) HT2.out (by have := HA.out; omega))
          clear hx2 H2
          go_wp2_with fail
          refine HMv.out.mono ?_
          rintro e w3 (⟨rfl, f2, sl2, hs2, h3, hT3⟩ | ⟨rfl, f2, sl2, h3⟩)
          · have c3 : w3.cell? ⟨K, 0, none⟩ = some (.pointer (some ⟨P, 0, none⟩)) := cell_is h3.2.2.1 0 rfl
            have HC := Lib.hid (com_m w3 (hd := hd) false h3 HHb.out (by decide) (by omega) (by omega) (fun e => by cases e))
            have HT3 := Lib.hid hT3
            clear h3 c2 hT3 HMv hs2
            go_wp2_with fail
            refine HC.out.mono ?_
            rintro e w4 ⟨rfl, h4⟩
            have c4 : w4.cell? ⟨K, 0, none⟩ = some (.pointer (some ⟨P, 0, none⟩)) := by (obtain ⟨_, _, _, _, _, _, hw, _⟩ := h4; exact cell_is hw 0 rfl)
            have HCk := Lib.hid (chk_m w4 h4 (by omega))
            clear h4 c3 HC
            go_wp2_with fail
            refine HCk.out.mono ?_
            rintro e w5 ⟨rfl, h5⟩
            have c5 : w5.cell? ⟨K, 0, none⟩ = some (.pointer (some ⟨P, 0, none⟩)) := by (obtain ⟨_, _, _, _, _, _, hw, _⟩ := h5; exact cell_is hw 0 rfl)
            have HFl := Lib.hid (flu_m w5 h5 (by omega))
            clear h5 c4 HCk
            go_wp2_with fail
            refine HFl.out.mono ?_
            rintro e w6 ⟨rfl, h6⟩
            have H6 := Lib.hid h6
            clear h6 c5 HFl
            go_wp2_with fail
            go_roundw
            case rel => exact ⟨q + 1, f2, j + 1 + 1, hltq, by go_num, H6.out, by omega, HT3.out⟩
            case measure => simp [intOf]; omega
          · have c3 : w3.cell? ⟨K, 0, none⟩ = some (.pointer (some ⟨P, 0, none⟩)) := cell_is h3.2.2.1 0 rfl
            have HAb := Lib.hid (abort_m w3 (hd := hd) h3 HHb.out)
            clear h3 c2 HMv
            go_wp2_with fail
            refine HAb.out.mono ?_
            rintro e w4 ⟨rfl, h4⟩
            have H4 := Lib.hid h4
            clear h4 c3 HAb
            go_wp2_with fail
            go_roundw
            case rel => exact ⟨q + 1, f', j + 1, hltq, by go_num, H4.out, by omega, HT2.out⟩
            case measure => simp [intOf]; omega
        · obtain rfl : q = m := by omega
          have c0 : wr.cell? ⟨K, 0, none⟩ = some (.pointer (some ⟨P, 0, none⟩)) := by (obtain ⟨_, _, _, _, _, hw, _⟩ := hM; exact cell_is hw 0 rfl)
          have HB := Lib.hid (beg_m wr hM (by omega))
          obtain ⟨v, hv, hs⟩ := hT
          have HV := Lib.hid hv
          have HSm := Lib.hid hs
          have HMo := Lib.hid (sumI_mono v i (fun t ht => (hv t ht).2))
          clear hM hv hs HT
          go_wp2_with fail
          refine HB.out.mono ?_
          rintro e w2 ⟨hd, bs, d2, s2, g2, rfl, hb, h2⟩
          have H2 := Lib.hid h2
          have HHb := Lib.hid hb
          clear h2 hb c0 HB
          go_wp2_with fail
          go_loopw [18, 19, 20, 21] (fun sm tt _ _ wr => ∃ (t : Nat), t ≤ i ∧ tt = .int .i64 t ∧ sm = .int .i64 (sumI v t) ∧ M1 w K G P bs d2 s2 g2 f' j wr f' t (spn t) false) (fun _ tt _ _ _ => i - (intOf tt).toNat)
          case atStart => exact ⟨0, by omega, rfl, rfl, H2.out⟩
          case round =>
            obtain ⟨t, ht, rfl, rfl, hM⟩ := hrel
            by_cases hltt : t < i
            · have hltt2 : (t : Int) < i := by omega
              have c0 : wr.cell? ⟨K, 0, none⟩ = some (.pointer (some ⟨P, 0, none⟩)) := cell_is hM.2.2.1 0 rfl
              have HG := Lib.hid (get_m wr hM (show t < 20 by omega) HHb.out)
              have hvt := HV.out t hltt
              have hlt0 := hvt.1.lt0 hvt.2
              have hb1 := HMo.out t ht
              have hb2 := HMo.out (t + 1) (by omega)
              have hb3 : sumI v (t + 1) = sumI v t + v t := rfl
              have hSm := HSm.out
              have hAA := HA.out
              have hcv := run_toW hvt.1 hvt.2 (by omega)
              have hws : IntKind.i64.wrap (sumI v t + v t) = sumI v (t + 1) := by rw [IntKind.wrap_i64]; omega
              clear hM hvt hb1 hb2 hb3 hSm hAA
              go_wp2_with fail
              refine HG.out.mono ?_
              rintro e w3 ⟨rfl, h3⟩
              have H3 := Lib.hid h3
              clear h3 c0 HG
              go_wp2_with fail
              go_roundw
              case rel => exact ⟨t + 1, hltt, by go_num, rfl, H3.out⟩
              case measure => simp [intOf]; omega
            · obtain rfl : t = i := by omega
              have hSm := HSm.out
              have k2 := hM.2.2.2
              have HAw := Lib.hid (awake_any wr)
              have HK2 := Lib.hid k2
              clear hM k2
              go_wp2_with fail
              refine HAw.out.mono ?_
              rintro e w3 ⟨rfl, k3⟩
              have HK3 := Lib.hid k3
              clear k3
              go_wp2_with fail
              go_ret
              exact ⟨rfl, HK2.out.then HK3.out⟩
end Go.Proofs.YtfodeeejolkkfaaGreat
namespace Go.Proofs.YtfodeeejolkkfaaGreat
open Go.ChangeShapes Go.WideShapes Go.ChangeAt Go.RowKit Go.Deep Go.Joins
set_option maxRecDepth 100000

theorem ownk : ownKnob Tryz.prog.godebug = none := by kernel_rfl
theorem laidOut0 : laidOutB Tryz.prog = true := by kernel_rfl
theorem read22 : Tryz.prog.readableRec 22 = true := by kernel_rfl
theorem read23 : Tryz.prog.readableRec 23 = true := by kernel_rfl
theorem typesN : 100 < Tryz.prog.types.size := by have h : decide (100 < Tryz.prog.types.size) = true := by kernel_rfl
                                                  exact of_decide_eq_true h
theorem cells5 : Tryz.prog.cellsOf 5 = 1 := by kernel_rfl
theorem cells42 : Tryz.prog.cellsOf 42 = 1 := by kernel_rfl

/-- what a contract with 'Below' gives of a row's sentence. -/
theorem post_below {H : Type} {enc : TypeId × Value → H} {f : Func} {s : ChangeSpec} {W W' : World} {args : Array Value} {v : Value} {ds gs : List (DataW H)} {before pa pv : List MemPlace} (hb : Below W.heap.size W W')
    (hW : DataW.Whole enc Tryz.prog f.params.toList s.vars false W args.toList ds gs before)
    (hres : DataW.TrodAll enc Tryz.prog W' W.heap.size (fun _ => false) false f.resultTypes.toList (v.resultList f.resultTypes.size) (s.fn H (ds ++ gs)).results [])
    (hargs : DataW.TrodAll enc Tryz.prog W' 0 (fun b => decide (b < W.heap.size)) true f.params.toList args.toList (s.fn H (ds ++ gs)).args pa)
    (hvars : DataW.TrodVars enc Tryz.prog W' (fun b => decide (b < W.heap.size)) s.vars (s.fn H (ds ++ gs)).vars pv) :
    s.post enc Tryz.prog f false true false false W args v W' :=
  ⟨ds, gs, before, [], pa, pv, hW, hres, hargs, hvars, hb.frame _, fun h => by cases h⟩

section
variable {H : Type} {enc : TypeId × Value → H} {W : World}
theorem bytes_trod {fuel : Nat} {v : Value} {y : DataW H × List MemPlace} (hf : DataW.trod enc Tryz.prog W 0 (fun _ => true) true fuel 23 [v] = some y) :
    ∃ (a0 : Option Addr) (m c : Nat) (l : List UInt8), v = .slice a0 m c ∧ l.length = m ∧ m ≤ c ∧ c ≤ maxLen ∧ Bs W a0 l := by
  rcases open_ints Tryz.underlying23 Tryz.underlying5 cells5 hf with ⟨hcs, hx⟩ | ⟨a, len, cap, zs, hcs, _, hl, hm, hz, hx, hcell, hwz⟩
  · simp only [List.cons.injEq, and_true] at hcs
    exact ⟨none, 0, 0, [], hcs, rfl, Nat.le_refl _, Nat.zero_le _, Or.inl rfl⟩
  · simp only [List.cons.injEq, and_true] at hcs
    simp only [if_true] at hz
    have hlen : ((zs.take len).map fun n => UInt8.ofNat n.toNat).length = len := by simp; omega
    refine ⟨some a, len, cap, (zs.take len).map fun n => UInt8.ofNat n.toNat, hcs, hlen, by omega, hm, ?_⟩
    by_cases h0 : len = 0
    · left; apply List.eq_nil_of_length_eq_zero; rw [hlen, h0]
    obtain ⟨b, off, sp⟩ := a
    have hsp : sp = none := by
      have := World.cell?_spot (hcell 0 (by omega))
      simpa [Addr.add] using this
    subst hsp
    refine Or.inr ⟨b, off, rfl, ?_, fun j hj => ?_⟩
    · have := World.block_lt_of_cell? _ _ (hcell 0 (by omega))
      rw [add_lit] at this; exact this
    · have hj' : j < len := by rw [hlen] at hj; exact hj
      have h2 := hcell j (by omega)
      rw [add_lit] at h2
      rw [h2]
      have hr := byte_of_wf (hwz (zs.getD j 0) (by rw [List.getD_eq_getElem?_getD, List.getElem?_eq_getElem (by omega)]; exact List.getElem_mem _))
      have hg : zs.getD j 0 = zs[j]'(by omega) := by rw [List.getD_eq_getElem?_getD, List.getElem?_eq_getElem (by omega)]; rfl
      rw [hg] at hr ⊢
      simp only [List.getElem_map, List.getElem_take]
      rw [UInt8.toNat_ofNat']
      congr 2
      omega
/-- an argument of type []byte, opened. -/
theorem open_bytes {base : Nat} {v1 : Value} {d1 : DataW H} {p1 : List MemPlace} (hval : Value.okWide Tryz.prog W .any base 23 v1) (h1 : DataW.Trod enc Tryz.prog W 0 (fun _ => true) true 23 v1 d1 p1) :
    ∃ (a0 : Option Addr) (m c : Nat) (l : List UInt8), v1 = .slice a0 m c ∧ l.length = m ∧ m ≤ c ∧ c ≤ maxLen ∧ Bs W a0 l := by
  obtain ⟨a1, len, cap, rfl⟩ := okWide_slice Tryz.underlying23 hval
  obtain ⟨fuel, hf⟩ := h1
  exact bytes_trod (y := (d1, p1)) (by simpa [Value.cells] using hf)
theorem float_cell {fuel : Nat} {v : Value} {x : DataW H × List MemPlace} (hf : DataW.trod enc Tryz.prog W 0 (fun _ => true) true fuel 42 [v] = some x) : ∃ b, v = .float .f64 b ∧ b < 18446744073709551616 := by
  cases fuel with
  | zero => simp [DataW.trod] at hf
  | succ n =>
    simp only [DataW.trod, Tryz.underlying42] at hf
    cases v with
    | float k' b =>
      by_cases hw : k' = FloatKind.f64 ∧ (Lit.float FloatKind.f64 b).wf = true
      · obtain ⟨rfl, hw⟩ := hw
        exact ⟨b, rfl, by simpa [Lit.wf] using hw⟩
      · simp only [] at hf
        by_cases hk : k' = FloatKind.f64
        · subst hk
          rw [if_neg hw] at hf
          cases hf
        · rw [if_neg (fun h => hk h.1)] at hf
          cases hf
    | _ => simp at hf
/-- an argument of type []float64, opened. -/
theorem open_floats {base : Nat} {v1 : Value} {d1 : DataW H} {p1 : List MemPlace} (hval : Value.okWide Tryz.prog W .any base 22 v1) (h1 : DataW.Trod enc Tryz.prog W 0 (fun _ => true) true 22 v1 d1 p1) :
    ∃ (a0 : Option Addr) (m c : Nat) (l : List Nat), v1 = .slice a0 m c ∧ l.length = m ∧ m ≤ c ∧ c ≤ maxLen ∧ Fl W a0 l ∧ ∀ x ∈ l, x < 18446744073709551616 := by
  obtain ⟨a1, len, cap, rfl⟩ := okWide_slice Tryz.underlying22 hval
  obtain ⟨fuel, hf⟩ := h1
  rcases open_slice1 Tryz.underlying22 cells42 (show DataW.trod enc Tryz.prog W 0 (fun _ => true) true fuel 22 [.slice a1 len cap] = some (d1, p1) by simpa [Value.cells] using hf) with ⟨hcs, hx⟩ | ⟨a, len', cap', m, n, V, D, Pl, hcs, _, hl, hm, hmm, hx, hcell⟩
  · simp only [List.cons.injEq, and_true] at hcs
    exact ⟨none, 0, 0, [], hcs, rfl, Nat.le_refl _, Nat.zero_le _, Or.inl rfl, fun x hx => by cases hx⟩
  · simp only [List.cons.injEq, and_true] at hcs
    simp only [if_true] at hmm
    have hk : ∀ i : Nat, ∃ b, i < len' → (W.cell? (a.add i) = some (.float .f64 b) ∧ b < 18446744073709551616) := by
      intro i
      by_cases hi : i < len'
      · obtain ⟨hc, ht⟩ := hcell i (by omega)
        obtain ⟨b, hb, hlt⟩ := float_cell ht
        exact ⟨b, fun _ => ⟨by rw [hc, hb], hlt⟩⟩
      · exact ⟨0, fun h => absurd h hi⟩
    obtain ⟨f, hf⟩ := Classical.axiomOfChoice hk
    refine ⟨some a, len', cap', (List.range len').map f, hcs, by simp, hl, hm, ?_, ?_⟩
    · by_cases h0 : len' = 0
      · left; rw [h0]; rfl
      · obtain ⟨b, off, sp⟩ := a
        have hsp : sp = none := by
          have := World.cell?_spot (hf 0 (by omega)).1
          simpa [Addr.add] using this
        subst hsp
        refine Or.inr ⟨b, off, rfl, fun j hj => ?_⟩
        have hj' : j < len' := by simpa using hj
        have := (hf j hj').1
        rw [add_lit] at this
        rw [this]
        simp
    · intro x hx
      simp only [List.mem_map, List.mem_range] at hx
      obtain ⟨i, hi, rfl⟩ := hx
      exact (hf i hi).2
end
end Go.Proofs.YtfodeeejolkkfaaGreat
namespace Go.Proofs.YtfodeeejolkkfaaGreat
open Go.ChangeShapes Go.WideShapes Go.ChangeAt Go.RowKit Go.Deep Go.Joins Go.Lib
set_option maxRecDepth 100000
set_option maxHeartbeats 2000000 in
theorem law7_far (w : World) {m n c1 c2 : Nat} {pa ta : Option Addr} (h : 40 < m ∨ n = 0 ∨ 20 < n) : Calls Tryz.prog 7 #[.slice pa m c1, .slice ta n c2] w fun e w' => e = .returned (.bool true) ∧ Chg [] w w' := by
  have HA := Lib.hid (awake_any w)
  by_cases h1 : 40 < m
  · have h1i : (40 : Int) < m := by omega
    have d1 : decide ((40 : Int) < m) = true := decide_eq_true h1i
    clear h
    go_enter Tryz.func7, Tryz.ntmps7
    go_wp2_with fail
    refine HA.out.mono ?_
    rintro e w1 ⟨rfl, k⟩
    have HK := Lib.hid k
    clear k
    go_wp2_with fail
    go_ret
    exact ⟨rfl, HK.out⟩
  have h1i : ¬ ((40 : Int) < m) := by omega
  have d1 : decide ((40 : Int) < m) = false := decide_eq_false h1i
  by_cases h2 : n = 0
  · subst h2
    clear h
    go_enter Tryz.func7, Tryz.ntmps7
    go_wp2_with fail
    refine HA.out.mono ?_
    rintro e w1 ⟨rfl, k⟩
    have HK := Lib.hid k
    clear k
    go_wp2_with fail
    go_ret
    exact ⟨rfl, HK.out⟩
  have h3i : (20 : Int) < n := by omega
  have h2i : ¬ ((n : Int) = 0) := by omega
  have d2 : decide ((n : Int) = 0) = false := decide_eq_false h2i
  have d2' : ((n : Int) == 0) = false := beq_eq_false_iff_ne.2 h2i
  have d3 : decide ((20 : Int) < n) = true := decide_eq_true h3i
  clear h
  go_enter Tryz.func7, Tryz.ntmps7
  go_wp2_with fail
  refine HA.out.mono ?_
  rintro e w1 ⟨rfl, k⟩
  have HK := Lib.hid k
  clear k
  go_wp2_with fail
  go_ret
  exact ⟨rfl, HK.out⟩
theorem law7_any (w : World) {m n : Nat} {lv fv : Value} (hl : IntsR w lv m) (hf : IntsR w fv n) : Calls Tryz.prog 7 #[lv, fv] w fun e w' => e = .returned (.bool true) ∧ Chg [] w w' := by
  by_cases h : 40 < m ∨ n = 0 ∨ 20 < n
  · obtain ⟨pa, c1, rfl, -⟩ := hl
    obtain ⟨ta, c2, rfl, -⟩ := hf
    exact law7_far w h
  · exact law7_in w hl hf (by omega) (by omega) (by omega)
theorem laidOutMv : laidOutB Tryz.prog = true := by kernel_rfl
theorem read62 : Tryz.prog.readableRec 62 = true := by kernel_rfl
theorem typesMv : 100 < Tryz.prog.types.size := by
  have h : decide (100 < Tryz.prog.types.size) = true := by kernel_rfl
  exact of_decide_eq_true h
theorem cellsMv3 : Tryz.prog.cellsOf 3 = 1 := by kernel_rfl
/-- an argument of type []int, opened. -/
theorem open_rowN {H : Type} {enc : TypeId × Value → H} {W : World} {base : Nat} {v1 : Value} {d1 : DataW H} {p1 : List MemPlace} (hval : Value.okWide Tryz.prog W .any base 62 v1) (h1 : DataW.Trod enc Tryz.prog W 0 (fun _ => true) true 62 v1 d1 p1) : ∃ m, IntsR W v1 m := by
  obtain ⟨a1, len, cap, rfl⟩ := okWide_slice Tryz.underlying62 hval
  obtain ⟨fuel, hf⟩ := h1
  have hf' : DataW.trod enc Tryz.prog W 0 (fun _ => true) true fuel 62 [.slice a1 len cap] = some (d1, p1) := by simpa [Value.cells] using hf
  rcases open_ints Tryz.underlying62 Tryz.underlying3 cellsMv3 hf' with ⟨hcs, hx⟩ | ⟨a, len', cap', zs, hcs, _, hl, hm, hz, hx, hcell, hwz⟩
  · simp only [List.cons.injEq, and_true] at hcs
    rw [hcs]
    exact ⟨0, none, 0, rfl, Nat.le_refl _, fun j hj => by omega⟩
  · simp only [List.cons.injEq, and_true] at hcs
    rw [hcs]
    simp only [if_true] at hz
    refine ⟨len', some a, cap', rfl, hl, fun j hj => ?_⟩
    have hc := hcell j (by omega)
    obtain ⟨b, off, sp⟩ := a
    have hsp : sp = none := by
      have := World.cell?_spot (hcell 0 (by omega))
      simpa [Addr.add] using this
    subst hsp
    refine ⟨b, off, zs.getD j 0, rfl, ?_⟩
    have e : (⟨b, off, none⟩ : Addr).add j = ⟨b, off + j, none⟩ := by unfold Addr.add; split <;> simp_all
    rw [← e]
    exact hc
namespace Law7
theorem contract (H : Type) (enc : TypeId × Value → H) (W : World) (base : Nat) (args : Array Value) (ds gs : List (DataW H)) (before : List MemPlace)
    (hval : ∀ (j : Nat) t v, Tryz.f7.params[j]? = some t → args[j]? = some v → Value.okWide Tryz.prog W .any base t v)
    (hW : DataW.Whole enc Tryz.prog Tryz.f7.params.toList Rows.cellsMovesSpec.vars false W args.toList ds gs before) :
    Calls Tryz.prog 7 args W fun e W' => ∃ v, e = .returned v ∧ Rows.cellsMovesSpec.post enc Tryz.prog Tryz.f7 false true false false W args v W' := by
  have hW' := hW
  obtain ⟨p, q, hA0, hV, rfl, hfz, hnd⟩ := hW
  have hA : DataW.TrodAll enc Tryz.prog W 0 (fun _ => true) true Tryz.f7.params.toList args.toList ds p := hA0
  rw [Tryz.params7] at hA hval
  obtain ⟨v0, vs0, d0, ds0, p0, q0, hargs, rfl, rfl, h0, r0⟩ := trodAll_cons hA
  obtain ⟨v1, vs1, d1, ds1, p1, q1, rfl, rfl, rfl, h1, r1⟩ := trodAll_cons r0
  obtain ⟨rfl, rfl, rfl⟩ := trodAll_nil r1
  obtain rfl : args = #[v0, v1] := by cases args; simp_all
  obtain ⟨rfl, rfl⟩ := trodVars_none hV
  have hlt : ∀ x ∈ p0 ++ (p1 ++ []), x.block < W.heap.size := fun x hx => hW'.lt x (by simpa using hx)
  obtain ⟨m1, i1⟩ := open_rowN (hval 0 62 v0 rfl rfl) h0
  obtain ⟨m2, i2⟩ := open_rowN (hval 1 62 v1 rfl rfl) h1
  refine (law7_any W i1 i2).mono fun e W' ⟨he, hc⟩ => ?_
  have hb := hc.below0
  subst he
  exact ⟨_, rfl, post_below hb hW' (trodAll_mk1 (shut_bool Tryz.underlying4 _))
    (trodAll_cons_mk (Below.trod laidOutMv read62 (Nat.lt_trans (by decide) typesMv) h0 hb (fun x hx => hlt x (by simp [hx])))
    (trodAll_cons_mk (Below.trod laidOutMv read62 (Nat.lt_trans (by decide) typesMv) h1 hb (fun x hx => hlt x (by simp [hx]))) trodAll_mk0)) rfl⟩
theorem lifted (os : Os) (started : os.Started) (H : Type) (enc : TypeId × Value → H) :
    ReturnsInHanded {} Tryz.checked os 7 .any (Rows.cellsMovesSpec.pre6 enc Tryz.prog Tryz.f7 Rows.cellsMovesRow.domain false) (Rows.cellsMovesSpec.post enc Tryz.prog Tryz.f7 false true false false) := by
  refine returnsInHanded_of_change (C := Tryz.checked) ownk started (by kernel_rfl) Tryz.func7
    (ChangeSpec.witness6 (enc := enc) (C := Tryz.checked) false ⟨#[], #[.slice none 0 0, .slice none 0 0], []⟩ 8 (by kernel_rfl) (by kernel_rfl) (by kernel_rfl) (by kernel_rfl)) ?_
  intro W base args ds gs before hval0 hW hcnd _
  exact contract H enc W base args ds gs before hval0 hW
theorem over : Rows.cellsMovesRow.holds Tryz.pinned (OpenSpec.ofChange Rows.cellsMovesSpec) :=
  OpenClaim.holds_of_wide 7 Tryz.f7 rfl rfl rfl rfl rfl rfl rfl ⟨rfl, rfl, rfl, rfl, rfl⟩ rfl rfl rfl rfl rfl (by kernel_rfl) Tryz.func7 (by kernel_rfl)
    (of_decide_eq_true (by kernel_rfl)) (by unfold Func.isWrapper; first | (rw [if_pos (by decide +kernel)]; kernel_rfl) | (rw [if_neg (by decide +kernel)]; exact ⟨rfl, rfl⟩))
    (fun os started H enc _ => lifted os started H enc)
theorem said : Rows.CellsMovesSaid := over
end Law7
end Go.Proofs.YtfodeeejolkkfaaGreat
