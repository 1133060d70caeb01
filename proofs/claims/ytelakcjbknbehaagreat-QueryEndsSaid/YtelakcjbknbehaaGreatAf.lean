/- Lemmas and walks: Walks: a device whose zones hold blocks. Walks: the reference's buffers and versions are looked at: scarpref11.Buf.Get 168, Map.Get 169, Map.in 166. Walks: the reference's Map.in 166, Book.place 218, Book.Open 93 in general, bytes copied (append of forty bytes onto nothing). Walks: the reference's manager: Book.Open 93 of an empty book, NewBuf 94, NewView 95, Begin 36, open 96. Walks: the reference's manager begins a transaction in general: NewBuf 94, NewView 95, Begin 36. Walks: the reference's View.Read 97. Walks: the reference's manager: open 96, Read 37, Write 41, Book.place 218, Close 171, end 101. Plain: what a buffer of puts and a list of versions hold behind a put, behind a transaction. Walks: sets of spans, whatever the spans are: nothing panics. -/
import Derived.Maps.AppendAt
import Derived.Deep.CutBlock
import Derived.Test.YtelakcjbknbehaaGreatAe
namespace Go.Proofs.YtelakcjbknbehaaGreat
open Go.RowKit Go.Lib

theorem ty132 : Tryz.prog.underlying 130 = some (.slice 47) := by kernel_rfl
theorem inf23 : (Tryz.prog.info? 47).map (fun i => (i.zero, i.size, i.bytes)) = some (some (.slice none 0 0), 1, 24) := by kernel_rfl
/-- some bytes are put behind the rows of an own row, as a step of a region that draws. -/
theorem step_append_bk {ops : Array Oper} {o : Oper} {a : Act} {w : World} {K : Act → World → Prop} {Q : Exit → Act → World → Prop} {E : Prop} (hgd : o.guard = none) (s x : Operand)
    (ho : o.op = .call { callee := .builtin .append, args := #[s, x], argTypes := #[130, 130] }) (base : Nat) (v : Value) (n : Nat) (xs : List Value) (hs : a.eval s = v) (hown : w.ownsRow base 47 1 v n xs) (b c : Nat) (u0 : Value)
    (hx : a.eval x = .slice (some ⟨b, 0, none⟩) 1 c) (c0 : w.cell? ⟨b, 0, none⟩ = some u0) (h1 : u0.oneCell' = true) (hn : n ≤ 1000000) (hbase : base ≤ w.heap.size)
    (h : ∀ g cap w', w'.ownsRow base 47 1 (.slice (some ⟨g, 0, none⟩) (n + 1) cap) (n + 1) (xs ++ [u0]) → Chg v.ownBlock.toList w w' → (v.ownBlock = some g ∨ g = w.heap.size) → K (a.put o.dst (.slice (some ⟨g, 0, none⟩) (n + 1) cap)) w') :
    if Region.wanted o (yielded ops a.tmps) = true then Oper.wp Tryz.prog o a w K Q else E := by
  obtain ⟨i, hi0, hz, hz1, hz2⟩ := info_parts inf23
  refine step_append_lies w hgd s x 130 ho base 47 i _ 1 24 ty132 hi0 hz hz1 hz2 rfl (by decide) v n xs hs hown ⟨b, 0, none⟩ 1 c [u0] hx rfl ?_ ?_ (by decide) (by unfold maxLen; omega) (by omega) hbase _ rfl ?_
  · intro j u hu
    rw [add_lit, Nat.zero_add]
    match j with
    | 0 => cases hu; exact c0
    | j + 1 => simp at hu
  · intro u hu
    simp at hu
    rcases hu with rfl
    exact h1
  · intro g cap w' h2 h3 h4 _
    refine h g cap w' h2 ?_ h4
    cases hv : v.ownBlock with
    | none => rw [hv] at h3; exact Chg.of_grown0 h3
    | some k => rw [hv] at h3; exact Chg.of_grown h3
/-- rows of bytes in a row of slices. -/
def RowsAt (w : World) (base : Nat) (v : Value) (l : List (List UInt8)) : Prop :=
  ∃ xs, w.ownsRow base 47 1 v l.length xs ∧ ∀ i (h : i < l.length), ∃ g c, xs[i]? = some (.slice (some ⟨g, 0, none⟩) 64 c) ∧ Bs w (some ⟨g, 0, none⟩) l[i] ∧ l[i].length = 64 ∧ Bt w g
theorem Bt.keep {w w' : World} {T : List Nat} {g : Nat} (h : Bt w g) (hc : Chg T w w') (hg : g ∉ T) : Bt w' g := by
  obtain ⟨cs, h⟩ := h
  exact ⟨cs, hc.heap h hg⟩
theorem Bt.av {w : World} {T ts : List Nat} {g : Nat} (h : Bt w g) (hT : Av w T ts) (h5 : 5 ∈ ts) : g ∉ T := by
  obtain ⟨cs, h⟩ := h
  exact hT.ne h h5
theorem RowsAt.nil (w : World) (base : Nat) : RowsAt w base (.slice none 0 0) [] := ⟨[], World.ownsRow_nil _ _ _ _, fun i h => by simp at h⟩
theorem RowsAt.keep {w w' : World} {T : List Nat} {base : Nat} {v : Value} {l : List (List UInt8)} (h : RowsAt w base v l) (hc : Chg T w w') (hT : Av w T [5]) (hv : ∀ g, v.ownBlock = some g → g ∉ T) : RowsAt w' base v l := by
  obtain ⟨xs, ho, hx⟩ := h
  refine ⟨xs, ?_, fun i hi => ?_⟩
  · refine ⟨ho.1, ?_⟩
    rcases ho.2 with hn | ⟨g, cap, cur, rfl, hb, hg, rest⟩
    · exact Or.inl hn
    · exact Or.inr ⟨g, cap, cur, rfl, hb, hc.heap hg (hv g rfl), rest⟩
  · obtain ⟨g, c, h1, h2, h3, h4⟩ := hx i hi
    have hg := h4.av hT (by simp)
    exact ⟨g, c, h1, h2.chgT hc hg, h3, h4.keep hc hg⟩
/-- .. when a row is put behind them. -/
theorem RowsAt.push {w w' : World} {base g gb cb cap : Nat} {v : Value} {l : List (List UInt8)} {b : List UInt8} {xs : List Value} (hx : ∀ i (h : i < l.length), ∃ g c, xs[i]? = some (.slice (some ⟨g, 0, none⟩) 64 c) ∧ Bs w (some ⟨g, 0, none⟩) l[i] ∧ l[i].length = 64 ∧ Bt w g)
    (hl : xs.length = l.length) (hv : ∀ g, v.ownBlock = some g → ∃ cs, w.heap[g]? = some (.cells cs 47 (0, 0))) (ho : w'.ownsRow base 47 1 (.slice (some ⟨g, 0, none⟩) (l.length + 1) cap) (l.length + 1) (xs ++ [.slice (some ⟨gb, 0, none⟩) 64 cb])) (hc : Chg v.ownBlock.toList w w')
    (hb : Bs w (some ⟨gb, 0, none⟩) b) (hb4 : b.length = 64) (hbt : Bt w gb) : RowsAt w' base (.slice (some ⟨g, 0, none⟩) (l.length + 1) cap) (l ++ [b]) := by
  have hne : ∀ {k}, Bt w k → k ∉ v.ownBlock.toList := by
    intro k hk hm
    have hm' : v.ownBlock = some k := by simpa using hm
    obtain ⟨cs, h1⟩ := hv k hm'
    obtain ⟨cs2, h2⟩ := hk
    rw [h1] at h2
    cases h2
  refine ⟨xs ++ [.slice (some ⟨gb, 0, none⟩) 64 cb], by rw [List.length_append]; exact ho, fun i hi => ?_⟩
  by_cases h : i < l.length
  · obtain ⟨g, c, h1, h2, h3, h4⟩ := hx i h
    rw [List.getElem_append_left h]
    exact ⟨g, c, by rw [List.getElem?_append_left (by omega)]; exact h1, h2.chgT hc (hne h4), h3, h4.keep hc (hne h4)⟩
  · have hi2 : i = l.length := by simp at hi; omega
    subst hi2
    refine ⟨gb, cb, by rw [← hl]; simp, ?_, ?_, hbt.keep hc (hne hbt)⟩
    · rw [List.getElem_append_right (Nat.le_refl _)]
      simpa using hb.chgT hc (hne hbt)
    · rw [List.getElem_append_right (Nat.le_refl _)]
      simpa using hb4
/-- block N is a device of eight zones: zone j has the row vs j of the blocks zs j, of which gs j are for good. -/
structure DevG (w : World) (base N A c : Nat) (ops : Int) (Z : List Nat) (vs : Nat → Value) (gs : Nat → Nat) (zs : Nat → List (List UInt8)) : Prop where
  hdr : w.heap[N]? = some (.cells #[.int .i64 8, .int .i64 96, .slice (some ⟨A, 0, none⟩) 8 c, .int .i64 ops, .int .i64 0, .bool false, .int .i64 0, .bool false] 128 (0, 0))
  cap : 8 ≤ c
  len : Z.length = 8
  tA : ∃ cs, w.heap[A]? = some (.cells cs 129 (0, 0))
  ptr : ∀ j (h : j < Z.length), w.cell? ⟨A, j, none⟩ = some (.pointer (some ⟨Z[j], 0, none⟩))
  zone : ∀ j (h : j < Z.length), w.heap[Z[j]]? = some (.cells #[vs j, .int .i64 (gs j : Nat)] 132 (0, 0))
  rows : ∀ j, j < 8 → RowsAt w base (vs j) (zs j)
  apart : ∀ i j g, i < 8 → j < 8 → i ≠ j → (vs i).ownBlock = some g → (vs j).ownBlock ≠ some g
  nodup : Z.Nodup
theorem DevAt.full {w : World} {S N A c : Nat} {ops : Int} {Z : List Nat} (h : DevAt w N A c ops Z) (hx : ExAt w S N A Z) (base : Nat) : DevG w base N A c ops Z (fun _ => .slice none 0 0) (fun _ => 0) (fun _ => []) :=
  ⟨h.1, h.2.1, h.2.2.1, hx.2.1, h.2.2.2.1, h.2.2.2.2, fun _ _ => RowsAt.nil w base, fun _ _ _ _ _ _ e => by simp [Value.ownBlock] at e, hx.2.2⟩
theorem RowsAt.block {w : World} {base : Nat} {v : Value} {l : List (List UInt8)} (h : RowsAt w base v l) : ∀ g, v.ownBlock = some g → ∃ cs, w.heap[g]? = some (.cells cs 47 (0, 0)) := by
  intro g hg
  obtain ⟨xs, ho, -⟩ := h
  exact (own_elem ho hg).2
/-- .. when the blocks that change are none of a device's. -/
theorem DevG.keep {w w' : World} {T : List Nat} {base N A c : Nat} {ops : Int} {Z : List Nat} {vs : Nat → Value} {gs : Nat → Nat} {zs : Nat → List (List UInt8)} (h : DevG w base N A c ops Z vs gs zs) (hc : Chg T w w') (hT : Av w T [128, 129, 132, 47, 5]) : DevG w' base N A c ops Z vs gs zs := by
  have hA : A ∉ T := by
    obtain ⟨cs, hA⟩ := h.tA
    exact hT.ne hA (by simp)
  refine ⟨hc.heap h.hdr (hT.ne h.hdr (by simp)), h.cap, h.len, ?_, fun j hj => hc.cell (h.ptr j hj) hA, fun j hj => hc.heap (h.zone j hj) (hT.ne (h.zone j hj) (by simp)), fun j hj => (h.rows j hj).keep hc (fun x hx cs t fr hh ht => hT x hx cs t fr hh (by simp at ht; simp [ht])) (fun g hg => ?_), h.apart, h.nodup⟩
  · obtain ⟨cs, hA'⟩ := h.tA
    exact ⟨cs, hc.heap hA' hA⟩
  · obtain ⟨cs, hb⟩ := (h.rows j hj).block g hg
    exact hT.ne hb (by simp)
set_option maxRecDepth 100000 in
theorem dgone_any (w : World) {base N A c : Nat} {ops : Int} {Z : List Nat} {vs : Nat → Value} {gs : Nat → Nat} {zs : Nat → List (List UInt8)} (h : DevG w base N A c ops Z vs gs zs) : Calls Tryz.prog 152 #[.pointer (some ⟨N, 0, none⟩)] w fun e w' => e = .returned (.bool false) ∧ w = w' := by
  have e2 : w.cell? ⟨N, 2, none⟩ = some (.slice (some ⟨A, 0, none⟩) 8 c) := cell_is h.hdr 2 rfl
  clear h
  go_enter Tryz.func152, Tryz.ntmps152
  go_wp2_with fail
  go_ret
  exact ⟨rfl, rfl⟩
set_option maxRecDepth 100000 in
theorem dat_any (w : World) {base N A c : Nat} {ops : Int} {Z : List Nat} {vs : Nat → Value} {gs : Nat → Nat} {zs : Nat → List (List UInt8)} (h : DevG w base N A c ops Z vs gs zs) (j : Nat) (hj : j < Z.length) : Calls Tryz.prog 131 #[.pointer (some ⟨N, 0, none⟩), .int .i64 j] w fun e w' => e = .returned (.pointer (some ⟨Z[j], 0, none⟩)) ∧ w = w' := by
  have HG := Lib.hid (dgone_any w h)
  have hc := h.cap
  have hz := h.len
  have e2 : w.cell? ⟨N, 2, none⟩ = some (.slice (some ⟨A, 0, none⟩) 8 c) := cell_is h.hdr 2 rfl
  have e3 := h.ptr j hj
  have hj8 : j < 8 := by omega
  clear h
  generalize Z[j] = z at *
  go_enter Tryz.func131, Tryz.ntmps131
  go_wp2_with fail
  refine HG.out.mono ?_
  rintro e w1 ⟨rfl, rfl⟩
  go_wp2_with fail
  go_ret
  exact ⟨rfl, rfl⟩
set_option maxRecDepth 100000 in
theorem dbegin_any (w : World) {base N A c : Nat} {ops : Int} {Z : List Nat} {vs : Nat → Value} {gs : Nat → Nat} {zs : Nat → List (List UInt8)} (h : DevG w base N A c ops Z vs gs zs) (h0 : 0 ≤ ops) (h1 : ops ≤ 1000000) : Calls Tryz.prog 132 #[.pointer (some ⟨N, 0, none⟩)] w fun e w' => e = .returned (.bool true) ∧ Chg [N] w w' ∧ DevG w' base N A c (ops + 1) Z vs gs zs := by
  have hfin : ∀ w', w' = (w.setCell ⟨N, 3, none⟩ (.int .i64 (ops + 1))).setCell ⟨N, 7, none⟩ (.bool false) → Chg [N] w w' ∧ DevG w' base N A c (ops + 1) Z vs gs zs := by
    rintro w' rfl
    have hc := (Chg.set w N 3 (.int .i64 (ops + 1))).then (Chg.set _ N 7 (.bool false))
    have hne : ∀ {g : Nat} {cs : Array Value} {t : TypeId}, w.heap[g]? = some (.cells cs t (0, 0)) → t ≠ 128 → g ∉ [N] := by
      intro g cs t hg ht hm
      rw [List.mem_singleton] at hm
      subst hm
      rw [h.hdr] at hg
      cases hg
      exact ht rfl
    obtain ⟨cA, hA⟩ := h.tA
    refine ⟨hc, heap_set (heap_set h.hdr 3 _ rfl) 7 _ rfl, h.cap, h.len, ⟨cA, hc.heap hA (hne hA (by decide))⟩, fun j hj => hc.cell (h.ptr j hj) (hne hA (by decide)), fun j hj => hc.heap (h.zone j hj) (hne (h.zone j hj) (by decide)), fun j hj => (h.rows j hj).keep hc (Av.row h.hdr (by simp)) (fun g hg => ?_), h.apart, h.nodup⟩
    obtain ⟨cs, hb⟩ := (h.rows j hj).block g hg
    exact hne hb (by decide)
  have e3 : w.cell? ⟨N, 3, none⟩ = some (.int .i64 ops) := cell_is h.hdr 3 rfl
  have e5 : w.cell? ⟨N, 5, none⟩ = some (.bool false) := cell_is h.hdr 5 rfl
  have e7 : w.cell? ⟨N, 7, none⟩ = some (.bool false) := cell_is h.hdr 7 rfl
  have f3 := unfrozen h.hdr 3
  have f7 := unfrozen h.hdr 7
  have HF := Lib.hid hfin
  clear h hfin
  go_enter Tryz.func132, Tryz.ntmps132
  go_wp2_with fail
  go_ret
  exact ⟨rfl, HF.out _ rfl⟩
end Go.Proofs.YtelakcjbknbehaaGreat
namespace Go.Proofs.YtelakcjbknbehaaGreat
open Go.RowKit Go.Lib

/-- forty bytes that are only read. -/
def DatX (w : World) (v : Value) (l : List UInt8) : Prop := ∃ g o c, v = .slice (some ⟨g, o, none⟩) 40 c ∧ 40 ≤ c ∧ l.length = 40 ∧ Bs w (some ⟨g, o, none⟩) l ∧ Bt w g
/-- block g is cells of type t. -/
def Ty (w : World) (g t : Nat) : Prop := ∃ cs, w.heap[g]? = some (.cells cs t (0, 0))
theorem Ty.keepA {w w' : World} {T ts : List Nat} {g t : Nat} (h : Ty w g t) (hc : Chg T w w') (hT : Av w T ts) (ht : t ∈ ts) : Ty w' g t := by
  obtain ⟨cs, h⟩ := h
  exact ⟨cs, hc.heap h (hT.ne h ht)⟩
theorem Ty.av {w : World} {T ts : List Nat} {g t : Nat} (h : Ty w g t) (hT : Av w T ts) (ht : t ∈ ts) : g ∉ T := by
  obtain ⟨cs, h⟩ := h
  exact hT.ne h ht
/-- a row of puts that is only read. -/
def PuX (w : World) (v : Value) (l : List (Int × List UInt8)) : Prop := ∃ pa c, v = .slice pa l.length c ∧ l.length ≤ c ∧ ∀ i (h : i < l.length), ∃ g o u, pa = some ⟨g, o, none⟩ ∧ Ty w g 50 ∧ w.cell? ⟨g, o + i * 2, none⟩ = some (.int .i64 l[i].1) ∧ w.cell? ⟨g, o + i * 2 + 1, none⟩ = some u ∧ DatX w u l[i].2
/-- a row of versions that is only read: block, time, bytes. -/
def VeX (w : World) (v : Value) (l : List (Int × Int × List UInt8)) : Prop := ∃ pa c, v = .slice pa l.length c ∧ l.length ≤ c ∧ ∀ i (h : i < l.length), ∃ g o u, pa = some ⟨g, o, none⟩ ∧ Ty w g 259 ∧ w.cell? ⟨g, o + i * 3, none⟩ = some (.int .i64 l[i].1) ∧ w.cell? ⟨g, o + i * 3 + 1, none⟩ = some (.int .i64 l[i].2.1) ∧ w.cell? ⟨g, o + i * 3 + 2, none⟩ = some u ∧ DatX w u l[i].2.2
theorem DatX.keepA {w w' : World} {T : List Nat} {v : Value} {l : List UInt8} (h : DatX w v l) (hc : Chg T w w') (hT : Av w T [5]) : DatX w' v l := by
  obtain ⟨g, o, c, h1, h2, h3, h4, h5⟩ := h
  have hg := h5.av hT (by simp)
  exact ⟨g, o, c, h1, h2, h3, h4.chgT hc hg, h5.keep hc hg⟩
theorem DatX.keep {w w' : World} {v : Value} {l : List UInt8} (h : DatX w v l) (hc : Chg [] w w') : DatX w' v l := h.keepA hc (Av.nil _ _)
theorem PuX.keepA {w w' : World} {T : List Nat} {v : Value} {l : List (Int × List UInt8)} (h : PuX w v l) (hc : Chg T w w') (hT : Av w T [5, 50]) : PuX w' v l := by
  obtain ⟨pa, c, h1, h2, h3⟩ := h
  refine ⟨pa, c, h1, h2, fun i hi => ?_⟩
  obtain ⟨g, o, u, k1, k0, k2, k3, k4⟩ := h3 i hi
  have hg := k0.av hT (by simp)
  exact ⟨g, o, u, k1, k0.keepA hc hT (by simp), hc.cell k2 hg, hc.cell k3 hg, k4.keepA hc (fun x hx cs t fr hh hm => hT x hx cs t fr hh (by simp at hm; simp [hm]))⟩
theorem PuX.keep {w w' : World} {v : Value} {l : List (Int × List UInt8)} (h : PuX w v l) (hc : Chg [] w w') : PuX w' v l := h.keepA hc (Av.nil _ _)
theorem VeX.keepA {w w' : World} {T : List Nat} {v : Value} {l : List (Int × Int × List UInt8)} (h : VeX w v l) (hc : Chg T w w') (hT : Av w T [5, 259]) : VeX w' v l := by
  obtain ⟨pa, c, h1, h2, h3⟩ := h
  refine ⟨pa, c, h1, h2, fun i hi => ?_⟩
  obtain ⟨g, o, u, k1, k0, k2, k3, k4, k5⟩ := h3 i hi
  have hg := k0.av hT (by simp)
  exact ⟨g, o, u, k1, k0.keepA hc hT (by simp), hc.cell k2 hg, hc.cell k3 hg, hc.cell k4 hg, k5.keepA hc (fun x hx cs t fr hh hm => hT x hx cs t fr hh (by simp at hm; simp [hm]))⟩
theorem VeX.keep {w w' : World} {v : Value} {l : List (Int × Int × List UInt8)} (h : VeX w v l) (hc : Chg [] w w') : VeX w' v l := h.keepA hc (Av.nil _ _)
/-- what a buffer tells of a block. -/
def bufG (l : List (Int × List UInt8)) (b : Int) : Option (List UInt8) := (l.find? fun p => decide (p.1 = b)).map Prod.snd
/-- block U is a buffer of puts l. -/
def RbAt (w : World) (U : Nat) (l : List (Int × List UInt8)) : Prop := ∃ v, w.heap[U]? = some (.cells #[.int .i64 258, .int .i64 16, v] 173 (0, 0)) ∧ PuX w v l
theorem RbAt.keep {w w' : World} {U : Nat} {l : List (Int × List UInt8)} (h : RbAt w U l) (hc : Chg [] w w') : RbAt w' U l := by
  obtain ⟨v, h1, h2⟩ := h
  exact ⟨v, hc.heap h1 (by simp), h2.keep hc⟩
/-- block Y is a map of versions l, the last time is t. -/
def RyAt (w : World) (Y : Nat) (l : List (Int × Int × List UInt8)) (t : Int) : Prop := ∃ v, w.heap[Y]? = some (.cells #[.int .i64 258, v, .int .i64 t] 247 (0, 0)) ∧ VeX w v l
theorem RyAt.keep {w w' : World} {Y : Nat} {l : List (Int × Int × List UInt8)} {t : Int} (h : RyAt w Y l t) (hc : Chg [] w w') : RyAt w' Y l t := by
  obtain ⟨v, h1, h2⟩ := h
  exact ⟨v, hc.heap h1 (by simp), h2.keep hc⟩
/-- a block's bytes and time at a time. -/
def verG (l : List (Int × Int × List UInt8)) (b at_ : Int) : List UInt8 × Int := l.foldl (fun r x => if x.1 = b ∧ x.2.1 ≤ at_ then (x.2.2, x.2.1) else r) (zeroB, 0)
theorem verG_take (l : List (Int × Int × List UInt8)) (b at_ : Int) (i : Nat) (h : i < l.length) : verG (l.take (i + 1)) b at_ = if l[i].1 = b ∧ l[i].2.1 ≤ at_ then (l[i].2.2, l[i].2.1) else verG (l.take i) b at_ := by
  unfold verG
  rw [List.take_succ_eq_append_getElem h, List.foldl_append]
  rfl
theorem make_z (w : World) : (Instr.makeSlice 47 (.int .i64 40) (.int .i64 40)).run Tryz.prog w = .ok (.slice (some ⟨w.heap.size, 0, none⟩) 40 40) (w.alloc (.cells (Lib.byteCells zeroB).toArray 5)) := by kernel_rfl
set_option maxRecDepth 100000 in
set_option maxHeartbeats 4000000 in
theorem rbuf_get (w : World) {U : Nat} {b : Int} {l : List (Int × List UInt8)} (h : RbAt w U l) (hl : l.length ≤ 1000) : Calls Tryz.prog 168 #[.pointer (some ⟨U, 0, none⟩), .int .i64 b] w fun e w' => w = w' ∧
    ((bufG l b = none ∧ e = .returned (.tuple #[.slice none 0 0, .bool false])) ∨ ∃ x v, bufG l b = some x ∧ DatX w v x ∧ e = .returned (.tuple #[v, .bool true])) := by
  obtain ⟨v, hU, pa, c, rfl, hc, hx⟩ := h
  obtain ⟨n, hn⟩ : ∃ n, n = l.length := ⟨_, rfl⟩
  rw [← hn] at hU hl hc
  have c2 : w.cell? ⟨U, 2, none⟩ = some (.slice pa n c) := cell_is hU 2 rfl
  have HH := Lib.hid (And.intro hx hn)
  clear hU hx hn
  go_enter Tryz.func168, Tryz.ntmps168
  go_wp2_with fail
  go_loopw [6] (fun iv wr => ∃ i : Nat, iv = .int .i64 i ∧ i ≤ n ∧ wr = w ∧ ∀ j (hj : j < l.length), j < i → l[j].1 ≠ b) (fun iv _ => n - (intOf iv).toNat)
  case atStart => exact ⟨0, rfl, Nat.zero_le _, (by first | trivial | rfl), fun j _ h => by omega⟩
  case round =>
    obtain ⟨i, rfl, hi, rfl, hno⟩ := hrel
    by_cases hlt : i < n
    · have hlti : (i : Int) < n := by omega
      have hil : i < l.length := by have := HH.out.2; omega
      obtain ⟨g, o, u, rfl, -, d0, d1, hD⟩ := HH.out.1 i hil
      have HD := Lib.hid (And.intro hD hno)
      obtain ⟨k, hk⟩ : ∃ k, k = l[i].1 := ⟨_, rfl⟩
      rw [← hk] at d0
      have HK := Lib.hid hk
      clear hD hno hk
      by_cases hkb : k = b
      · subst hkb
        have hfind : bufG l k = some l[i].2 := by
          unfold bufG
          rw [List.find?_eq_some_iff_getElem.2 ⟨by simp [HK.out], i, hil, rfl, fun j hj => by simpa using HD.out.2 j (by omega) hj⟩]
          rfl
        have HF := Lib.hid hfind
        clear hfind
        go_wp2_with fail
        go_ret2
        exact ⟨(by first | trivial | rfl), Or.inr ⟨_, _, HF.out, HD.out.1, rfl⟩⟩
      · have hkd : decide (k = b) = false := decide_eq_false hkb
        have hkq : (k == b) = false := beq_eq_false_iff_ne.2 hkb
        go_wp2_with fail
        go_roundw
        case rel => exact ⟨i + 1, by go_num, hlt, trivial, fun j hj hji => by
          by_cases e : j = i
          · subst e
            rw [← HK.out]
            exact hkb
          · exact HD.out.2 j hj (by omega)⟩
        case measure => simp [intOf]; omega
    · obtain rfl : i = n := by omega
      have hnone : bufG l b = none := by
        unfold bufG
        rw [List.find?_eq_none.2 (fun x hx => by
          obtain ⟨j, hj, rfl⟩ := List.getElem_of_mem hx
          simpa using hno j hj (by have := HH.out.2; omega))]
        rfl
      have HF := Lib.hid hnone
      clear hnone hno
      go_wp2_with fail
      go_ret2
      exact ⟨(by first | trivial | rfl), Or.inl ⟨HF.out, rfl⟩⟩
theorem zero_datx (w : World) : DatX (w.alloc (.cells (Lib.byteCells zeroB).toArray 5)) (.slice (some ⟨w.heap.size, 0, none⟩) 40 40) zeroB := by
  refine ⟨w.heap.size, 0, 40, rfl, Nat.le_refl _, rfl, ?_, ⟨_, heap_new w _⟩⟩
  have hh := heap_new w (.cells (Lib.byteCells zeroB).toArray 5)
  refine Or.inr ⟨_, _, rfl, heap_lt hh, fun j hj => ?_⟩
  rw [Nat.zero_add]
  exact cell_is hh j (by simp [Lib.byteCells, hj])
set_option maxRecDepth 100000 in
set_option maxHeartbeats 4000000 in
theorem rmap_get (w : World) {Y : Nat} {b t last : Int} {l : List (Int × Int × List UInt8)} (h : RyAt w Y l last) (hl : l.length ≤ 100000) (hb0 : 0 ≤ b) (hb1 : b < 258) : Calls Tryz.prog 169 #[.pointer (some ⟨Y, 0, none⟩), .int .i64 b, .int .i64 t] w fun e w' =>
    ∃ v, e = .returned (.tuple #[v, .int .i64 (verG l b t).2]) ∧ Chg [] w w' ∧ DatX w' v (verG l b t).1 := by
  have n0 : decide (b < 0) = false := decide_eq_false (by omega)
  have n1 : decide (258 ≤ b) = false := decide_eq_false (by omega)
  obtain ⟨v, hY, pa, c, rfl, hc, hx⟩ := h
  obtain ⟨n, hn⟩ : ∃ n, n = l.length := ⟨_, rfl⟩
  rw [← hn] at hY hl hc
  have c0 : w.cell? ⟨Y, 0, none⟩ = some (.int .i64 258) := cell_is hY 0 rfl
  have hV : VeX w (.slice pa n c) l := ⟨pa, c, by rw [hn], by omega, hx⟩
  have hmk := make_z
  have hz := zero_datx w
  have k1 : Chg [] w (w.alloc (.cells (Lib.byteCells zeroB).toArray 5)) := Chg.alloc w _
  generalize (Lib.byteCells zeroB).toArray = ZB at *
  have HH := Lib.hid (And.intro hV (And.intro hn (And.intro hY (And.intro hz k1))))
  clear hV hx hn hY hz k1
  go_enter Tryz.func169, Tryz.ntmps169
  go_wp2_with fail
  have d1 : (w.alloc (.cells ZB 5)).cell? ⟨Y, 1, none⟩ = some (.slice pa n c) := cell_is (HH.out.2.2.2.2.heap HH.out.2.2.1 (by simp)) 1 rfl
  go_loopw [8, 9, 10] (fun dv tv iv wr => ∃ i : Nat, iv = .int .i64 i ∧ i ≤ n ∧ tv = .int .i64 (verG (l.take i) b t).2 ∧ DatX wr dv (verG (l.take i) b t).1 ∧ wr = w.alloc (.cells ZB 5)) (fun _ _ iv _ => n - (intOf iv).toNat)
  case atStart => exact ⟨0, rfl, Nat.zero_le _, rfl, HH.out.2.2.2.1, (by first | trivial | rfl)⟩
  case round =>
    obtain ⟨i, rfl, hi, rfl, hD, rfl⟩ := hrel
    by_cases hlt : i < n
    · have hlti : (i : Int) < n := by omega
      have hil : i < l.length := by have := HH.out.2.1; omega
      obtain ⟨pa', c', e, -, hx⟩ := HH.out.1.keep HH.out.2.2.2.2
      obtain ⟨g, o, u, hpa, -, q0, q1, q2, hD2⟩ := hx i hil
      cases e
      subst hpa
      have htk := verG_take l b t i hil
      obtain ⟨k, y, dat, hk⟩ : ∃ k y dat, l[i] = (k, y, dat) := ⟨_, _, _, rfl⟩
      rw [hk] at q0 q1 hD2 htk
      simp only at q0 q1 hD2 htk
      have HD := Lib.hid (And.intro hD (And.intro hD2 htk))
      clear hD hD2 htk hx hk
      obtain ⟨tm, htm⟩ : ∃ tm, tm = (verG (l.take i) b t).2 := ⟨_, rfl⟩
      rw [← htm]
      have HT : Hid (Value.int .i64 tm = .int .i64 (verG (l.take i) b t).2) := Lib.hid (by rw [htm])
      clear htm
      by_cases hkb : k = b
      · subst hkb
        by_cases hty : y ≤ t
        · have dy : decide (y ≤ t) = true := decide_eq_true hty
          go_wp2_with fail
          go_roundw
          case rel =>
            have e := HD.out.2.2
            rw [if_pos ⟨rfl, hty⟩] at e
            exact ⟨i + 1, by go_num, hlt, by rw [e], by rw [e]; exact HD.out.2.1, (by first | trivial | rfl)⟩
          case measure => simp [intOf]; omega
        · have dy : decide (y ≤ t) = false := decide_eq_false hty
          go_wp2_with fail
          go_roundw
          case rel =>
            have e := HD.out.2.2
            rw [if_neg (fun h => hty h.2)] at e
            exact ⟨i + 1, by go_num, hlt, by rw [e]; exact HT.out, by rw [e]; exact HD.out.1, (by first | trivial | rfl)⟩
          case measure => simp [intOf]; omega
      · have hkq : (k == b) = false := beq_eq_false_iff_ne.2 hkb
        have hkd : decide (k = b) = false := decide_eq_false hkb
        go_wp2_with fail
        go_roundw
        case rel =>
          have e := HD.out.2.2
          rw [if_neg (fun h => hkb h.1)] at e
          exact ⟨i + 1, by go_num, hlt, by rw [e]; exact HT.out, by rw [e]; exact HD.out.1, (by first | trivial | rfl)⟩
        case measure => simp [intOf]; omega
    · obtain rfl : i = n := by omega
      have htk : l.take i = l := List.take_of_length_le (by have := HH.out.2.1; omega)
      rw [htk] at hD ⊢
      have HD := Lib.hid hD
      clear hD
      go_wp2_with fail
      go_ret2
      exact ⟨_, rfl, HH.out.2.2.2.2, HD.out⟩
end Go.Proofs.YtelakcjbknbehaaGreat
namespace Go.Proofs.YtelakcjbknbehaaGreat
open Go.RowKit Go.Lib

theorem RyAt.c0 {w : World} {Y : Nat} {l : List (Int × Int × List UInt8)} {t : Int} (h : RyAt w Y l t) : w.cell? ⟨Y, 0, none⟩ = some (.int .i64 258) := by
  obtain ⟨v, h1, -⟩ := h
  exact cell_is h1 0 rfl
set_option maxRecDepth 100000 in
set_option maxHeartbeats 2000000 in
theorem rin_any (w : World) {Y : Nat} {a n last : Int} {l : List (Int × Int × List UInt8)} (h : RyAt w Y l last) (hm : MayE a n) (hn : a + n ≤ 258) : Calls Tryz.prog 166 #[.pointer (some ⟨Y, 0, none⟩), .agg #[.int .i64 a, .int .i64 n]] w fun e w' => e = .returned (.bool true) ∧ Chg [] w w' := by
  have g0 := heap_new w (.cells #[.int .i64 a, .int .i64 n] 79)
  have k0 : Chg [] w (w.alloc (.cells #[.int .i64 a, .int .i64 n] 79)) := Chg.alloc w _
  have c0 : (w.alloc (.cells #[.int .i64 a, .int .i64 n] 79)).cell? ⟨w.heap.size, 0, none⟩ = some (.int .i64 a) := cell_is g0 0 rfl
  have c1 : (w.alloc (.cells #[.int .i64 a, .int .i64 n] 79)).cell? ⟨w.heap.size, 1, none⟩ = some (.int .i64 n) := cell_is g0 1 rfl
  have y0 := (h.keep k0).c0
  have hm2 := hm
  unfold MayE at hm2
  have hs : IntKind.i64.wrap (a + n) = a + n := by rw [IntKind.wrap_i64]; omega
  have hd : decide (a + n ≤ 258) = true := decide_eq_true hn
  have HM := Lib.hid hm
  clear h hm hn g0
  go_enter Tryz.func166, Tryz.ntmps166
  go_wp2_with fail
  generalize w.alloc (.cells #[.int .i64 a, .int .i64 n] 79) = w1 at *
  generalize w.heap.size = z at *
  go_region_held3 (fun wx => wx.cell? ⟨z, 0, none⟩ = some (.int .i64 a) ∧ wx.cell? ⟨z, 1, none⟩ = some (.int .i64 n) ∧ wx.cell? ⟨Y, 0, none⟩ = some (.int .i64 258))
    (first | (exact ⟨c0, c1, y0⟩) | (exact ⟨k2.cell c0 (by simp), k2.cell c1 (by simp), k2.cell y0 (by simp)⟩))
    (first | (go_at_call 213; refine (rmay_ext w1.drew).mono ?_; rintro e w2 ⟨rfl, k2⟩; rw [decide_eq_true HM.out]))
  go_wp2_with fail
  go_ret
  exact ⟨rfl, k0.then ((Chg.refl [] w1).drew.then k2)⟩
/-- forty bytes are put behind an empty row that was just made. -/
theorem run_copy40 (w : World) {z : Nat} {v : Value} {l : List UInt8} (ty : TypeId) (hz : w.heap[z]? = some (.cells #[] 5 (0, 0))) (h : DatX w v l) :
    ∃ v' w', (Builtin.append_ #[47, 47] ty #[.slice (some ⟨z, 0, none⟩) 0 0, v]).run Tryz.prog w = .ok v' w' ∧ Chg [z] w w' ∧ DatX w' v' l := by
  obtain ⟨g, o, c, rfl, hc, hl, hb, -⟩ := h
  have ho : w.ownsRow z 5 1 (.slice (some ⟨z, 0, none⟩) 0 0) 0 (Lib.byteCells []) := ⟨rfl, Or.inr ⟨z, 0, #[], rfl, Nat.le_refl _, hz, Nat.le_refl _, by unfold maxLen; omega, rfl, rfl⟩⟩
  obtain ⟨v', w', h1, h2⟩ := append_bs_own (P := Tryz.prog) w 47 ty 5 ty23 inf5c z _ 0 [] ho (some ⟨g, o, none⟩) 40 c l hl hb (by omega) (Nat.le_of_lt (heap_lt hz))
  refine ⟨v', w', h1, Chg.of_grown h2.2.2, ?_⟩
  have h3 : w'.ownsRow z 5 1 v' 40 (Lib.byteCells l) := by simpa using h2.1
  obtain ⟨pa, c', rfl, hc'⟩ := own_form h3
  rcases h3.2 with ⟨e, h0⟩ | ⟨g', cap, cur, e, hA, hg, h4⟩
  · omega
  · cases e
    exact ⟨g', 0, _, rfl, hc', hl, Bs.own h3, ⟨_, hg⟩⟩
/-- block V is a view: of map Y and buffer U at a time, with extents S that were read, n reads. -/
def RvAt (w : World) (lo V Y U : Nat) (t : Int) (S : List (Int × Int)) (n : Nat) : Prop :=
  ∃ sv rv xs, w.heap[V]? = some (.cells #[.pointer (some ⟨Y, 0, none⟩), .pointer (some ⟨U, 0, none⟩), .int .i64 t, .int .i64 64, sv, rv] 180 (0, 0)) ∧ w.ownsRow lo 79 2 sv S.length (spCells S) ∧ w.ownsRow lo 255 3 rv n xs
/-- what a read of a view changes: the view, the row of reads; the new row lies in the old one's block or in a new one. -/
def RrX (w w' : World) (V : Nat) : Prop := ∃ rv rv' T, w.cell? ⟨V, 5, none⟩ = some rv ∧ w'.cell? ⟨V, 5, none⟩ = some rv' ∧ Chg T w w' ∧ (∀ x ∈ T, x < w.heap.size → x = V ∨ rv.ownBlock = some x) ∧ ∀ g, rv'.ownBlock = some g → g < w.heap.size → rv.ownBlock = some g
/-- a block's bytes in a view. -/
def viewG (P : List (Int × List UInt8)) (L : List (Int × Int × List UInt8)) (t b : Int) : List UInt8 := (bufG P b).getD (verG L b t).1
theorem RbAt.keepA {w w' : World} {T : List Nat} {U : Nat} {l : List (Int × List UInt8)} (h : RbAt w U l) (hc : Chg T w w') (hT : Av w T [173, 5, 50]) : RbAt w' U l := by
  obtain ⟨v, h1, h2⟩ := h
  exact ⟨v, hc.heap h1 (hT.ne h1 (by simp)), h2.keepA hc (fun x hx cs t fr hh hm => hT x hx cs t fr hh (by simp at hm; rcases hm with rfl | rfl <;> simp))⟩
theorem RyAt.keepA {w w' : World} {T : List Nat} {Y : Nat} {l : List (Int × Int × List UInt8)} {t : Int} (h : RyAt w Y l t) (hc : Chg T w w') (hT : Av w T [247, 5, 259]) : RyAt w' Y l t := by
  obtain ⟨v, h1, h2⟩ := h
  exact ⟨v, hc.heap h1 (hT.ne h1 (by simp)), h2.keepA hc (fun x hx cs t fr hh hm => hT x hx cs t fr hh (by simp at hm; rcases hm with rfl | rfl <;> simp))⟩
theorem rbuf_get1 (w : World) {U : Nat} {b : Int} {l : List (Int × List UInt8)} (h : RbAt w U l) (hl : l.length ≤ 1000) : Calls Tryz.prog 168 #[.pointer (some ⟨U, 0, none⟩), .int .i64 b] w fun e w' => ∃ v, e = .returned (.tuple #[v, .bool (bufG l b).isSome]) ∧ w = w' ∧ ∀ x, bufG l b = some x → DatX w v x := by
  refine (rbuf_get w h hl).mono ?_
  rintro e w' ⟨hw, ⟨h1, rfl⟩ | ⟨x, v, h1, h2, rfl⟩⟩
  · exact ⟨_, by rw [h1]; rfl, hw, fun x hx => by rw [h1] at hx; cases hx⟩
  · exact ⟨v, by rw [h1]; rfl, hw, fun y hy => by rw [h1] at hy; cases hy; exact h2⟩
theorem rbuf_get2 (w : World) {U : Nat} {b b' : Int} {l : List (Int × List UInt8)} (h : RbAt w U l) (hl : l.length ≤ 1000) (hb : b' = b) : Calls Tryz.prog 168 #[.pointer (some ⟨U, 0, none⟩), .int .i64 b'] w fun e w' => ∃ v, e = .returned (.tuple #[v, .bool (bufG l b).isSome]) ∧ w = w' ∧ ∀ x, bufG l b = some x → DatX w v x := by
  subst hb
  exact rbuf_get1 w h hl
theorem rmap_get2 (w : World) {Y : Nat} {b b' t last : Int} {l : List (Int × Int × List UInt8)} (h : RyAt w Y l last) (hl : l.length ≤ 100000) (hb0 : 0 ≤ b) (hb1 : b < 258) (hb : b' = b) : Calls Tryz.prog 169 #[.pointer (some ⟨Y, 0, none⟩), .int .i64 b', .int .i64 t] w fun e w' =>
    ∃ v, e = .returned (.tuple #[v, .int .i64 (verG l b t).2]) ∧ Chg [] w w' ∧ DatX w' v (verG l b t).1 := by
  subst hb
  exact rmap_get w h hl hb0 hb1
theorem tyRd : Tryz.prog.underlying 178 = some (.slice 255) := by kernel_rfl
theorem infRd : (Tryz.prog.info? 255).map (fun i => (i.zero, i.size, i.bytes)) = some (some (.agg #[.int .i64 0, .slice none 0 0, .bool false]), 3, 40) := by kernel_rfl
end Go.Proofs.YtelakcjbknbehaaGreat
namespace Go.Proofs.YtelakcjbknbehaaGreat
open Go.RowKit Go.Lib

/-- block G is a reference's manager over map Y: its rows of handles, times, transactions, its queue and whose, how many have begun, batches, the last time given and done, how many are out. -/
def RmS (w : World) (G Y : Nat) (hv tv Tv qv qhv : Value) (n num giv dn out : Int) : Prop :=
  w.heap[G]? = some (.cells #[.pointer (some ⟨Y, 0, none⟩), .int .i64 16, hv, tv, .int .i64 n, Tv, qv, qhv, .int .i64 out, .int .i64 num, .int .i64 giv, .int .i64 dn, .bool false, .int .i64 258, .int .i64 0] 120 (0, 0))
/-- a row of one int. -/
def Int1 (w : World) (v : Value) (x : Int) : Prop := ∃ g c, v = .slice (some ⟨g, 0, none⟩) 1 c ∧ 1 ≤ c ∧ ∃ cs : Array Value, w.heap[g]? = some (.cells cs 3 (0, 0)) ∧ cs[0]? = some (.int .i64 x) ∧ 0 < cs.size
theorem Int1.keepT {w w' : World} {T : List Nat} {v : Value} {x : Int} (h : Int1 w v x) (hc : Chg T w w') (hT : ∀ g ∈ T, ∀ cs fr, w.heap[g]? = some (.cells cs 3 fr) → cs.size = 0) : Int1 w' v x := by
  obtain ⟨g, c, e, h1, cs, h2, h3, h4⟩ := h
  exact ⟨g, c, e, h1, cs, hc.heap h2 (fun hm => by have := hT g hm cs _ h2; omega), h3, h4⟩
theorem Int1.own {w : World} {base g c : Nat} {x : Int} (h : w.ownsRow base 3 1 (.slice (some ⟨g, 0, none⟩) 1 c) 1 [.int .i64 x]) : Int1 w (.slice (some ⟨g, 0, none⟩) 1 c) x := by
  rcases h.2 with ⟨e, h0⟩ | ⟨g', cap, cur, e, hA, hg, h1, h2, h3, h4⟩
  · omega
  · cases e
    refine ⟨g, c, rfl, h1, cur, hg, ?_, by omega⟩
    have := congrArg (fun l => l[0]?) h4
    simpa [List.getElem?_take] using this
theorem step_append_i2 {ops : Array Oper} {o : Oper} {a : Act} {w : World} {K : Act → World → Prop} {Q : Exit → Act → World → Prop} {E : Prop} (hgd : o.guard = none) (s x : Operand)
    (ho : o.op = .call { callee := .builtin .append, args := #[s, x], argTypes := #[115, 115] }) (z b c : Nat) (k : Int) (hs : a.eval s = .slice (some ⟨z, 0, none⟩) 0 0) (hz : w.heap[z]? = some (.cells #[] 3 (0, 0)))
    (hx : a.eval x = .slice (some ⟨b, 0, none⟩) 1 c) (hb : w.cell? ⟨b, 0, none⟩ = some (.int .i64 k))
    (h : ∀ g cap w', Chg [z] w w' → w'.ownsRow 0 3 1 (.slice (some ⟨g, 0, none⟩) 1 cap) 1 [.int .i64 k] → K (a.put o.dst (.slice (some ⟨g, 0, none⟩) 1 cap)) w') :
    if Region.wanted o (yielded ops a.tmps) = true then Oper.wp Tryz.prog o a w K Q else E := by
  obtain ⟨i, hi0, hz0, hz1, hz2⟩ := info_parts inf3
  refine step_append_lies w hgd s x 115 ho 0 3 i _ 1 8 ty62 hi0 hz0 hz1 hz2 rfl (by decide) _ 0 [] hs (own0 w z hz) ⟨b, 0, none⟩ 1 c [.int .i64 k] hx rfl ?_ ?_ (by decide) (by unfold maxLen; omega) (by omega) (Nat.zero_le _) _ rfl ?_
  · intro j u hu
    rw [add_lit, Nat.zero_add]
    match j with
    | 0 => cases hu; exact hb
    | j + 1 => simp at hu
  · intro u hu
    simp at hu
    subst hu
    rfl
  · intro g cap w' h2 h3 _ _
    exact h g cap w' (Chg.of_grown h3) h2
theorem wpList_append_i2 {ops : Array Oper} {rest : List Oper} {o : Oper} {a : Act} {w : World} {Q : Exit → Act → World → Prop} (hgd : o.guard = none) (s x : Operand)
    (ho : o.op = .call { callee := .builtin .append, args := #[s, x], argTypes := #[115, 115] }) (z b c : Nat) (k : Int) (hs : a.eval s = .slice (some ⟨z, 0, none⟩) 0 0) (hz : w.heap[z]? = some (.cells #[] 3 (0, 0)))
    (hx : a.eval x = .slice (some ⟨b, 0, none⟩) 1 c) (hb : w.cell? ⟨b, 0, none⟩ = some (.int .i64 k))
    (h : ∀ g cap w', Chg [z] w w' → w'.ownsRow 0 3 1 (.slice (some ⟨g, 0, none⟩) 1 cap) 1 [.int .i64 k] → wpList Tryz.prog ops Q rest (a.put o.dst (.slice (some ⟨g, 0, none⟩) 1 cap)) w') : wpList Tryz.prog ops Q (o :: rest) a w := by
  obtain ⟨i, hi0, hz0, hz1, hz2⟩ := info_parts inf3
  refine wpList_append_lies w hgd s x 115 ho 0 3 i _ 1 8 ty62 hi0 hz0 hz1 hz2 rfl (by decide) _ 0 [] hs (own0 w z hz) ⟨b, 0, none⟩ 1 c [.int .i64 k] hx rfl ?_ ?_ (by decide) (by unfold maxLen; omega) (by omega) (Nat.zero_le _) _ rfl ?_
  · intro j u hu
    rw [add_lit, Nat.zero_add]
    match j with
    | 0 => cases hu; exact hb
    | j + 1 => simp at hu
  · intro u hu
    simp at hu
    subst hu
    rfl
  · intro g cap w' h2 h3 _ _
    exact h g cap w' (Chg.of_grown h3) h2
/-- a row of ints that was just made stands while a block of another type is set. -/
theorem own_setC {w : World} {base e t size n G i : Nat} {v u : Value} {xs : List Value} {cs : Array Value} (h : w.ownsRow base e size v n xs) (hG : w.heap[G]? = some (.cells cs t (0, 0))) (ht : t ≠ e) : (w.setCell ⟨G, i, none⟩ u).ownsRow base e size v n xs :=
  own_kp h (Chg.set w G i u) (fun g hg hm => by
    rw [List.mem_singleton] at hm
    subst hm
    obtain ⟨-, cs', hh⟩ := own_elem h hg
    rw [hG] at hh
    cases hh
    exact ht rfl)
set_option maxRecDepth 100000 in
set_option maxHeartbeats 4000000 in
theorem rbook_open2 (w : World) {G Y : Nat} {Tv qv qhv : Value} {n num giv dn at_ out : Int} (h : RmS w G Y (.slice none 0 0) (.slice none 0 0) Tv qv qhv n num giv dn out) (h0 : 0 ≤ at_) (h1 : at_ ≤ 1099511627776) (hn0 : 0 ≤ n) (hn1 : n ≤ 1000000) : Calls Tryz.prog 93 #[.pointer (some ⟨G, 1, none⟩), .int .i64 at_] w fun e w' =>
    ∃ a b, e = .returned (.tuple #[.int .i64 (n + 1), .int .i64 0]) ∧ Chg [G] w w' ∧ RmS w' G Y a b Tv qv qhv (n + 1) num giv dn out ∧ Int1 w' a (n + 1) ∧ Int1 w' b at_ := by
  have c1 : w.cell? ⟨G, 1, none⟩ = some (.int .i64 16) := cell_is h 1 rfl
  have c2 : w.cell? ⟨G, 2, none⟩ = some (.slice none 0 0) := cell_is h 2 rfl
  have c3 : w.cell? ⟨G, 3, none⟩ = some (.slice none 0 0) := cell_is h 3 rfl
  have c4 : w.cell? ⟨G, 4, none⟩ = some (.int .i64 n) := cell_is h 4 rfl
  have f4 := unfrozen h 4
  have d0 : decide (at_ < 0) = false := decide_eq_false (by omega)
  have d1 : decide (1099511627776 < at_) = false := decide_eq_false (by omega)
  go_enter Tryz.func93, Tryz.ntmps93
  go_wp2_with fail
  go_quiet (fail)
  go_upto_region 6 with fail
  have h1 : RmS ((w.drewN nq).setCell ⟨G, 4, none⟩ (.int .i64 (n + 1))) G Y (.slice none 0 0) (.slice none 0 0) Tv qv qhv (n + 1) num giv dn out := heap_set (show (w.drewN nq).heap[G]? = _ from h) 4 _ rfl
  have k1 : Chg [G] w ((w.drewN nq).setCell ⟨G, 4, none⟩ (.int .i64 (n + 1))) := ((Chg.refl [G] w).drewN nq).then (Chg.set _ G 4 _)
  generalize (w.drewN nq).setCell ⟨G, 4, none⟩ (.int .i64 (n + 1)) = w1 at *
  clear c1 c2 c3 c4 f4
  have hG := heap_lt h1
  have e2 : w1.cell? ⟨G, 2, none⟩ = some (.slice none 0 0) := cell_is h1 2 rfl
  have e4 : w1.cell? ⟨G, 4, none⟩ = some (.int .i64 (n + 1)) := cell_is h1 4 rfl
  have e2d : w1.drew.cell? ⟨G, 2, none⟩ = some (.slice none 0 0) := e2
  have e4d : w1.drew.cell? ⟨G, 4, none⟩ = some (.int .i64 (n + 1)) := e4
  have e2a : ∀ o, (w1.alloc o).cell? ⟨G, 2, none⟩ = some (.slice none 0 0) := fun o => cell_is (heap_old h1) 2 rfl
  have e4a : ∀ o, (w1.alloc o).cell? ⟨G, 4, none⟩ = some (.int .i64 (n + 1)) := fun o => cell_is (heap_old h1) 4 rfl
  have e2b : ∀ o p, ((w1.alloc o).alloc p).cell? ⟨G, 2, none⟩ = some (.slice none 0 0) := fun o p => cell_is (heap_old (heap_old h1)) 2 rfl
  have e4b : ∀ o p, ((w1.alloc o).alloc p).cell? ⟨G, 4, none⟩ = some (.int .i64 (n + 1)) := fun o p => cell_is (heap_old (heap_old h1)) 4 rfl
  obtain ⟨zA, bA⟩ := two_new w1 (.cells #[] 3) (.cells #[.int .i64 (n + 1)] 3)
  obtain ⟨bB, zB⟩ := two_new w1 (.cells #[.int .i64 (n + 1)] 3) (.cells #[] 3)
  have rA : RmS ((w1.alloc (.cells #[] 3)).alloc (.cells #[.int .i64 (n + 1)] 3)) G Y (.slice none 0 0) (.slice none 0 0) Tv qv qhv (n + 1) num giv dn out := heap_old (heap_old h1)
  have rB : RmS ((w1.alloc (.cells #[.int .i64 (n + 1)] 3)).alloc (.cells #[] 3)) G Y (.slice none 0 0) (.slice none 0 0) Tv qv qhv (n + 1) num giv dn out := heap_old (heap_old h1)
  have kA := (Chg.refl [G] w1).drew.then_alloc (.cells #[] 3) |>.then_alloc (.cells #[.int .i64 (n + 1)] 3)
  have kB := (Chg.refl [G] w1).drew.then_alloc (.cells #[.int .i64 (n + 1)] 3) |>.then_alloc (.cells #[] 3)
  have nA : G ∉ [w1.heap.size] := by simp; omega
  have nB : G ∉ [w1.heap.size + 1] := by simp; omega
  go_cut [5] from 29 (fun e wx => e = .int .i64 0 ∧ ∃ a, RmS wx G Y a (.slice none 0 0) Tv qv qhv (n + 1) num giv dn out ∧ Chg [G] w wx ∧ Int1 wx a (n + 1))
  case first =>
    go_region_law
      (first
        | (refine step_append_run rfl (.tmp 30) (.tmp 34) 115 115 rfl _ _ rfl rfl _ _ (append_none _ _ _) ?_)
        | (refine step_append_i2 rfl (.tmp 35) (.tmp 40) rfl w1.heap.size (w1.heap.size + 1) 1 _ rfl zA rfl (cell_is bA 0 rfl) ?_; intro g5 cp5 w5 k5 o5; have r5 := k5.heap rA nA; have c5 := cell_is r5 2 rfl; have f5 := unfrozen r5 2; have k6 : Chg [G] w1 w5 := kA.trans k5 (by intro x hx hlt; rw [List.mem_singleton] at hx; omega))
        | (refine step_append_i2 rfl (.tmp 35) (.tmp 40) rfl (w1.heap.size + 1) w1.heap.size 1 _ rfl zB rfl (cell_is bB 0 rfl) ?_; intro g5 cp5 w5 k5 o5; have r5 := k5.heap rB nB; have c5 := cell_is r5 2 rfl; have f5 := unfrozen r5 2; have k6 : Chg [G] w1 w5 := kB.trans k5 (by intro x hx hlt; rw [List.mem_singleton] at hx; omega)))
    all_goals
      have r6 : RmS (w5.setCell ⟨G, 2, none⟩ (.slice (some ⟨g5, 0, none⟩) 1 cp5)) G Y (.slice (some ⟨g5, 0, none⟩) 1 cp5) (.slice none 0 0) Tv qv qhv (n + 1) num giv dn out := heap_set r5 2 _ rfl
      have k7 := (k1.then k6).then (Chg.set w5 G 2 (.slice (some ⟨g5, 0, none⟩) 1 cp5))
      have i7 := Lib.hid (Int1.own (own_setC (G := G) (i := 2) (u := .slice (some ⟨g5, 0, none⟩) 1 cp5) o5 r5 (by decide)))
      clear k6 r5 c5 f5 o5
      go_wp2_with fail
      go_meet
      exact ⟨rfl, _, r6, k7, i7.out⟩
  case rest =>
    obtain ⟨rfl, a, h7, k7, i7⟩ := hcut
    clear k1 h1 e2 e4 e2d e4d e2a e4a e2b e4b zA bA zB bB rA rB kA kB nA nB hG h
    have hG := heap_lt h7
    have I7 := Lib.hid i7
    clear i7
    have c3 : wc.cell? ⟨G, 3, none⟩ = some (.slice none 0 0) := cell_is h7 3 rfl
    have c3a : ∀ o, (wc.alloc o).cell? ⟨G, 3, none⟩ = some (.slice none 0 0) := fun o => cell_is (heap_old h7) 3 rfl
    have c4 : wc.cell? ⟨G, 4, none⟩ = some (.int .i64 (n + 1)) := cell_is h7 4 rfl
    obtain ⟨zA, bA⟩ := two_new wc (.cells #[] 3) (.cells #[.int .i64 at_] 3)
    have rA : RmS ((wc.alloc (.cells #[] 3)).alloc (.cells #[.int .i64 at_] 3)) G Y a (.slice none 0 0) Tv qv qhv (n + 1) num giv dn out := heap_old (heap_old h7)
    have kA0 := (Chg.refl [] wc).then_alloc (.cells #[] 3) |>.then_alloc (.cells #[.int .i64 at_] 3)
    have kA : Chg [G] wc ((wc.alloc (.cells #[] 3)).alloc (.cells #[.int .i64 at_] 3)) := kA0.mono (fun x hx _ => by cases hx)
    have nA : G ∉ [wc.heap.size] := by simp; omega
    have HF := Lib.hid (fun (g5 cp5 : Nat) (w5 : World) (k5 : Chg [wc.heap.size] ((wc.alloc (.cells #[] 3)).alloc (.cells #[.int .i64 at_] 3)) w5) (o5 : w5.ownsRow 0 3 1 (.slice (some ⟨g5, 0, none⟩) 1 cp5) 1 [.int .i64 at_]) =>
      (show RmS (w5.setCell ⟨G, 3, none⟩ (.slice (some ⟨g5, 0, none⟩) 1 cp5)) G Y a (.slice (some ⟨g5, 0, none⟩) 1 cp5) Tv qv qhv (n + 1) num giv dn out ∧ Chg [G] w (w5.setCell ⟨G, 3, none⟩ (.slice (some ⟨g5, 0, none⟩) 1 cp5)) ∧ Int1 (w5.setCell ⟨G, 3, none⟩ (.slice (some ⟨g5, 0, none⟩) 1 cp5)) a (n + 1) ∧ Int1 (w5.setCell ⟨G, 3, none⟩ (.slice (some ⟨g5, 0, none⟩) 1 cp5)) (.slice (some ⟨g5, 0, none⟩) 1 cp5) at_ from
        ⟨heap_set (k5.heap rA nA) 3 _ rfl, (k7.then (kA.trans k5 (by intro x hx hlt; rw [List.mem_singleton] at hx; omega))).then (Chg.set w5 G 3 _),
          ((I7.out.keepT kA0 (fun g hg => by cases hg)).keepT k5 (fun g hg cs fr hh => by
            rw [List.mem_singleton] at hg
            subst hg
            rw [zA] at hh
            cases hh
            rfl)).keepT (Chg.set w5 G 3 _) (fun g hg cs fr hh => by
            rw [List.mem_singleton] at hg
            subst hg
            rw [k5.heap rA nA] at hh
            cases hh),
          Int1.own (own_setC (G := G) (i := 3) (u := .slice (some ⟨g5, 0, none⟩) 1 cp5) o5 (k5.heap rA nA) (by decide))⟩))
    go_wp2_with (at_builtin; first
      | (refine Lib.wpList_append_run _ rfl (.tmp 45) (.tmp 49) 115 115 rfl _ _ rfl rfl _ _ (append_none _ _ _) ?_)
      | (refine wpList_append_i2 rfl (.tmp 50) (.tmp 52) rfl wc.heap.size (wc.heap.size + 1) 1 _ rfl zA rfl (cell_is bA 0 rfl) ?_; intro g5 cp5 w5 k5 o5; have r5 := k5.heap rA nA; have c5 := cell_is r5 3 rfl; have f5 := unfrozen r5 3; have c6 : (w5.setCell ⟨G, 3, none⟩ (.slice (some ⟨g5, 0, none⟩) 1 cp5)).cell? ⟨G, 4, none⟩ = some (.int .i64 (n + 1)) := cell_is (heap_set r5 3 _ rfl) 4 rfl))
    have hf := Lib.hid (HF.out g5 cp5 w5 k5 o5)
    go_ret2
    exact ⟨_, _, rfl, hf.out.2.1, hf.out.1, hf.out.2.2.1, hf.out.2.2.2⟩
end Go.Proofs.YtelakcjbknbehaaGreat
namespace Go.Proofs.YtelakcjbknbehaaGreat
open Go.RowKit Go.Lib

theorem puX_nil (w : World) : PuX w (.slice none 0 0) [] := ⟨none, 0, rfl, Nat.le_refl _, fun i h => by cases h⟩
set_option maxRecDepth 100000 in
theorem rbuf_new2 (w : World) : Calls Tryz.prog 94 #[.int .i64 258, .int .i64 16] w fun e w' => ∃ U, e = .returned (.tuple #[.pointer (some ⟨U, 0, none⟩), .int .i64 0]) ∧ Chg [] w w' ∧ w.heap.size ≤ U ∧ RbAt w' U [] := by
  go_enter Tryz.func94, Tryz.ntmps94
  go_wp2_with fail
  go_ret2
  exact ⟨_, rfl, Chg.alloc _ _, Nat.le_refl _, _, heap_new w _, puX_nil _⟩
set_option maxRecDepth 100000 in
theorem rview_new2 (w : World) (X B : Nat) (t : Int) : Calls Tryz.prog 95 #[.pointer (some ⟨X, 0, none⟩), .pointer (some ⟨B, 0, none⟩), .int .i64 t] w fun e w' => ∃ V, e = .returned (.pointer (some ⟨V, 0, none⟩)) ∧ Chg [] w w' ∧ w.heap.size ≤ V ∧ w'.heap[V]? = some (.cells #[.pointer (some ⟨X, 0, none⟩), .pointer (some ⟨B, 0, none⟩), .int .i64 t, .int .i64 64, .slice none 0 0, .slice none 0 0] 180 (0, 0)) := by
  go_enter Tryz.func95, Tryz.ntmps95
  go_wp2_with fail
  go_ret
  exact ⟨_, rfl, Chg.alloc _ _, Nat.le_refl _, heap_new w _⟩
/-- a value is put behind a row of pointers. -/
theorem step_append_p2 {ops : Array Oper} {o : Oper} {a : Act} {w : World} {K : Act → World → Prop} {Q : Exit → Act → World → Prop} {E : Prop} (hgd : o.guard = none) (s x : Operand)
    (ho : o.op = .call { callee := .builtin .append, args := #[s, x], argTypes := #[118, 118] }) (base : Nat) (v : Value) (n : Nat) (xs : List Value) (hs : a.eval s = v) (hown : w.ownsRow base 163 1 v n xs) (b c : Nat) (k : Value)
    (hx : a.eval x = .slice (some ⟨b, 0, none⟩) 1 c) (hb : w.cell? ⟨b, 0, none⟩ = some k) (hk : k.oneCell' = true) (hn : n ≤ 1000000) (hbase : base ≤ w.heap.size)
    (h : ∀ g cap w', w'.ownsRow base 163 1 (.slice (some ⟨g, 0, none⟩) (n + 1) cap) (n + 1) (xs ++ [k]) → Chg v.ownBlock.toList w w' → (v.ownBlock = some g ∨ g = w.heap.size) → K (a.put o.dst (.slice (some ⟨g, 0, none⟩) (n + 1) cap)) w') :
    if Region.wanted o (yielded ops a.tmps) = true then Oper.wp Tryz.prog o a w K Q else E := by
  obtain ⟨i, hi0, hz0, hz1, hz2⟩ := info_parts inf206
  refine step_append_lies w hgd s x 118 ho base 163 i _ 1 8 ty161 hi0 hz0 hz1 hz2 rfl (by decide) v n xs hs hown ⟨b, 0, none⟩ 1 c [k] hx rfl ?_ ?_ (by decide) (by unfold maxLen; omega) (by omega) hbase _ rfl ?_
  · intro j u hu
    rw [add_lit, Nat.zero_add]
    match j with
    | 0 => cases hu; exact hb
    | j + 1 => simp at hu
  · intro u hu
    simp at hu
    subst hu
    exact hk
  · intro g cap w' h2 h3 h4 _
    exact h g cap w' h2 (Chg.own h3 (fun g hg _ => by simp [hg])) h4
/-- block D is a reference's transaction over view V and buffer U. -/
def RtAt (w : World) (D V U : Nat) (st tm cd : Int) : Prop := w.heap[D]? = some (.cells #[.int .i64 st, .int .i64 tm, .int .i64 cd, .pointer (some ⟨V, 0, none⟩), .pointer (some ⟨U, 0, none⟩)] 167 (0, 0))
/-- what a begin of the reference leaves. -/
def RbgR (w w' : World) (lo G Y : Nat) (Tv qv qhv : Value) (xs : List Value) (n : Nat) (num giv dn out : Int) : Prop :=
  ∃ a b Tv' D V U, RmS w' G Y a b Tv' qv qhv (n + 1 : Nat) num giv dn out ∧ Int1 w' a (n + 1 : Nat) ∧ Int1 w' b dn ∧ w'.ownsRow lo 163 1 Tv' (n + 1) (xs ++ [.pointer (some ⟨D, 0, none⟩)]) ∧ RtAt w' D V U 1 0 0 ∧ RvAt w' lo V Y U dn [] 0 ∧ w'.cell? ⟨V, 5, none⟩ = some (.slice none 0 0) ∧ RbAt w' U [] ∧
    (w.heap.size ≤ D ∧ w.heap.size ≤ V ∧ w.heap.size ≤ U) ∧ Chg (G :: Tv.ownBlock.toList) w w' ∧ ∀ g, Tv'.ownBlock = some g → Tv.ownBlock = some g ∨ w.heap.size ≤ g
set_option maxRecDepth 100000 in
set_option maxHeartbeats 8000000 in
theorem rbegin2 (w : World) {lo G Y n : Nat} {Tv qv qhv : Value} {xs : List Value} {num giv dn out : Int} (h : RmS w G Y (.slice none 0 0) (.slice none 0 0) Tv qv qhv n num giv dn out) (hT : w.ownsRow lo 163 1 Tv n xs) (hlo : lo ≤ w.heap.size) (h0 : 0 ≤ dn) (h1 : dn ≤ 1099511627776) (hn1 : n ≤ 100000) : Calls Tryz.prog 36 #[.pointer (some ⟨G, 0, none⟩)] w fun e w' =>
    e = .returned (.tuple #[.int .i64 (n + 1 : Nat), .int .i64 0]) ∧ RbgR w w' lo G Y Tv qv qhv xs n num giv dn out := by
  have c11 : w.cell? ⟨G, 11, none⟩ = some (.int .i64 dn) := cell_is h 11 rfl
  have HT := Lib.hid (And.intro hT hlo)
  have HB := Lib.hid (rbook_open2 w.drew (G := G) (Y := Y) h h0 h1 (by omega) (by omega))
  have hGT : Hid (∀ g, Tv.ownBlock = some g → g ≠ G) := Lib.hid (fun g hg e => by
    subst e
    obtain ⟨-, cs, hh⟩ := own_elem hT hg
    rw [h] at hh
    cases hh)
  clear hT hlo
  go_enter Tryz.func36, Tryz.ntmps36
  go_wp2_with fail
  go_region_held3 (fun wx => wx.cell? ⟨G, 11, none⟩ = some (.int .i64 dn)) (first | (exact c11) | (exact cell_is h2 11 rfl))
    (first | (go_at_call 93; refine HB.out.mono ?_; rintro e w2 ⟨a, b, rfl, k2, h2, i2, j2⟩))
  have k2' := (Chg.refl [G] w).drew.then k2
  have HI := Lib.hid (And.intro i2 j2)
  clear c11 k2 h i2 j2 HB
  have c13 : w2.cell? ⟨G, 13, none⟩ = some (.int .i64 258) := cell_is h2 13 rfl
  go_wp2_with fail
  refine (rbuf_new2 w2).mono ?_
  rintro e w3 ⟨U, rfl, k3, hU, hUb⟩
  have h3 : RmS w3 G Y a b Tv qv qhv ((n : Int) + 1) num giv dn out := k3.heap h2 (by simp)
  have k3' := k2'.then (k3.mono (T := [G]) (fun x hx _ => by cases hx))
  have HU := Lib.hid (And.intro (show w.heap.size ≤ U by have := k2'.size; omega) (And.intro hUb (And.intro (HI.out.1.keepT k3 (fun g hg => by cases hg)) (HI.out.2.keepT k3 (fun g hg => by cases hg)))))
  clear c13 h2 k2' k3 hU hUb HI
  go_wp2_with fail
  have e5 : w3.cell? ⟨G, 5, none⟩ = some Tv := cell_is h3 5 rfl
  have e0 : w3.cell? ⟨G, 0, none⟩ = some (.pointer (some ⟨Y, 0, none⟩)) := cell_is h3 0 rfl
  have e11 : w3.cell? ⟨G, 11, none⟩ = some (.int .i64 dn) := cell_is h3 11 rfl
  have e5d : w3.drew.cell? ⟨G, 5, none⟩ = some Tv := e5
  have e0d : w3.drew.cell? ⟨G, 0, none⟩ = some (.pointer (some ⟨Y, 0, none⟩)) := e0
  have e11d : w3.drew.cell? ⟨G, 11, none⟩ = some (.int .i64 dn) := e11
  have o3 : w3.ownsRow lo 163 1 Tv n xs := own_kp HT.out.1 k3' (fun g hg hm => hGT.out g hg (by simpa using hm))
  go_region_law
    (first
      | (go_simp; go_at_call 95; refine (rview_new2 w3.drew Y U dn).mono ?_; rintro e w4 ⟨V, rfl, k4, hV, hVh⟩; have h4 : RmS w4 G Y a b Tv qv qhv ((n : Int) + 1) num giv dn out := k4.heap h3 (by simp); have g5 := cell_is h4 5 rfl; have g5a : ∀ o, (w4.alloc o).cell? ⟨G, 5, none⟩ = some Tv := (fun o => cell_is (heap_old h4) 5 rfl); have g5b : ∀ o p, ((w4.alloc o).alloc p).cell? ⟨G, 5, none⟩ = some Tv := (fun o p => cell_is (heap_old (heap_old h4)) 5 rfl); have x1 := (two_new w4 (.cells #[.int .i64 1, .int .i64 0, .int .i64 0, .pointer (some ⟨V, 0, none⟩), .pointer (some ⟨U, 0, none⟩)] 167) (.cells #[.pointer (some ⟨w4.heap.size, 0, none⟩)] 163)); have k6 := ((k4.then_alloc (.cells #[.int .i64 1, .int .i64 0, .int .i64 0, .pointer (some ⟨V, 0, none⟩), .pointer (some ⟨U, 0, none⟩)] 167)).then_alloc (.cells #[.pointer (some ⟨w4.heap.size, 0, none⟩)] 163)); have h6 := k6.heap (show w3.drew.heap[G]? = _ from h3) (by simp); have o6 := own_kp (show w3.drew.ownsRow lo 163 1 Tv n xs from own_kp o3 (Chg.refl [] w3).drew (fun g hg hm => by cases hm)) k6 (fun g hg hm => by cases hm); have hlo6 : lo ≤ ((w4.alloc (.cells #[.int .i64 1, .int .i64 0, .int .i64 0, .pointer (some ⟨V, 0, none⟩), .pointer (some ⟨U, 0, none⟩)] 167)).alloc (.cells #[.pointer (some ⟨w4.heap.size, 0, none⟩)] 163)).heap.size := (by have h1 := k6.size; have h2 := k3'.size; have h3 := HT.out.2; have h4 : w3.drew.heap.size = w3.heap.size := rfl; omega))
      | (refine step_append_p2 rfl (.tmp 34) (.tmp 48) rfl lo Tv n xs rfl o6 (w4.heap.size + 1) 1 _ rfl (cell_is x1.2 0 rfl) rfl (by omega) hlo6 ?_; intro q5 cp5 w5 o7 k7 l7; have h7 := k7.heap h6 (fun hm => hGT.out G (by simpa using hm) rfl); have c7 := cell_is h7 5 rfl; have f7 := unfrozen h7 5))
  all_goals
    have hF : RbgR w (w5.setCell ⟨G, 5, none⟩ (.slice (some ⟨q5, 0, none⟩) (n + 1) cp5)) lo G Y Tv qv qhv xs n num giv dn out := by
      have kS := Chg.set w5 G 5 (.slice (some ⟨q5, 0, none⟩) (n + 1) cp5)
      have hTb : ∀ g, Tv.ownBlock = some g → ∃ cs, w3.heap[g]? = some (.cells cs 163 (0, 0)) := fun g hg => (own_elem o3 hg).2
      have nT : ∀ {x : Nat} {cs : Array Value} {t : TypeId}, w3.heap[x]? = some (.cells cs t (0, 0)) → t ≠ 163 → x ∉ Tv.ownBlock.toList := fun hh ht hm => by
        obtain ⟨cs', h'⟩ := hTb _ (by simpa using hm)
        rw [hh] at h'
        cases h'
        exact ht rfl
      have nT2 : ∀ {x : Nat}, w3.heap.size ≤ x → x ∉ Tv.ownBlock.toList := fun hh hm => by
        obtain ⟨cs', h'⟩ := hTb _ (by simpa using hm)
        have := heap_lt h'
        omega
      have hs3 : w3.drew.heap.size = w3.heap.size := rfl
      have hGl : G < w3.heap.size := heap_lt h3
      have hUl : U < w3.heap.size := (by obtain ⟨v, hh, -⟩ := HU.out.2.1; exact heap_lt hh)
      have hD : RtAt (w5.setCell ⟨G, 5, none⟩ (.slice (some ⟨q5, 0, none⟩) (n + 1) cp5)) w4.heap.size V U 1 0 0 := kS.heap (k7.heap x1.1 (nT2 (by have := k4.size; omega))) (by rw [List.mem_singleton]; have := k4.size; omega)
      have hV6 := ((Chg.alloc (S := []) w4 (.cells #[.int .i64 1, .int .i64 0, .int .i64 0, .pointer (some ⟨V, 0, none⟩), .pointer (some ⟨U, 0, none⟩)] 167)).then_alloc (.cells #[.pointer (some ⟨w4.heap.size, 0, none⟩)] 163)).heap hVh (by simp)
      have hV7 := kS.heap (k7.heap hV6 (nT2 (by omega))) (by rw [List.mem_singleton]; omega)
      have hB7 : RbAt (w5.setCell ⟨G, 5, none⟩ (.slice (some ⟨q5, 0, none⟩) (n + 1) cp5)) U [] := by
        obtain ⟨v, hh, hp⟩ := HU.out.2.1
        obtain ⟨pa, c, e, hc, -⟩ := hp
        exact ⟨v, kS.heap (k7.heap (k6.heap (show w3.drew.heap[U]? = _ from hh) (by simp)) (nT hh (by decide))) (by rw [List.mem_singleton]; intro e; rw [e] at hh; rw [h3] at hh; cases hh), pa, c, e, hc, fun i hi => by cases hi⟩
      have av5 : ∀ g ∈ Tv.ownBlock.toList, ∀ cs fr, ((w4.alloc (.cells #[.int .i64 1, .int .i64 0, .int .i64 0, .pointer (some ⟨V, 0, none⟩), .pointer (some ⟨U, 0, none⟩)] 167)).alloc (.cells #[.pointer (some ⟨w4.heap.size, 0, none⟩)] 163)).heap[g]? = some (.cells cs 3 fr) → cs.size = 0 := fun g hg cs fr hh => by
        obtain ⟨-, cs', h'⟩ := own_elem o6 (show Tv.ownBlock = some g by simpa using hg)
        rw [hh] at h'
        cases h'
      have avG : ∀ g ∈ [G], ∀ cs fr, w5.heap[g]? = some (.cells cs 3 fr) → cs.size = 0 := fun g hg cs fr hh => by
        rw [List.mem_singleton] at hg
        subst hg
        rw [h7] at hh
        cases hh
      have hi : ∀ {v : Value} {x : Int}, Int1 w3 v x → Int1 (w5.setCell ⟨G, 5, none⟩ (.slice (some ⟨q5, 0, none⟩) (n + 1) cp5)) v x := fun hv => (((hv.keepT (Chg.refl [] w3).drew (fun g hg => by cases hg)).keepT k6 (fun g hg => by cases hg)).keepT k7 av5).keepT kS avG
      have hkk : Chg (G :: Tv.ownBlock.toList) w (w5.setCell ⟨G, 5, none⟩ (.slice (some ⟨q5, 0, none⟩) (n + 1) cp5)) :=
        ((((k3'.mono (T := G :: Tv.ownBlock.toList) (fun x hx _ => by rw [List.mem_singleton] at hx; simp [hx])).drew.then (k6.mono (fun x hx _ => by cases hx))).then (k7.mono (fun x hx _ => List.mem_cons_of_mem _ hx))).then (kS.mono (fun x hx _ => by rw [List.mem_singleton] at hx; simp [hx])))
      have hw3 := k3'.size
      have hw4 := k4.size
      refine ⟨a, b, _, w4.heap.size, V, U, heap_set h7 5 _ rfl, hi HU.out.2.2.1, hi HU.out.2.2.2, own_kp o7 kS (fun g hg hm => ?_), hD, ⟨_, _, [], hV7, World.ownsRow_nil _ _ _ _, World.ownsRow_nil _ _ _ _⟩, cell_is hV7 5 rfl, hB7, ⟨by omega, by omega, HU.out.1⟩, hkk, fun g hg => ?_⟩
      · obtain ⟨-, cs, hh⟩ := own_elem o7 hg
        rw [List.mem_singleton] at hm
        rw [hm, h7] at hh
        cases hh
      · have e1 : q5 = g := by simpa [Value.ownBlock] using hg
        rcases l7 with h | h
        · exact Or.inl (by rw [h, e1])
        · have := k6.size
          exact Or.inr (by omega)
    have HF := Lib.hid hF
    clear h4 g5 g5a g5b x1 h6 h7 c7 f7 k4 k7 k6 o6 o7 l7 hF hV hVh hlo6
    go_wp2_with fail
    go_ret2
    exact ⟨by push_cast; rfl, HF.out⟩
end Go.Proofs.YtelakcjbknbehaaGreat
namespace Go.Proofs.YtelakcjbknbehaaGreat
open Go.RowKit Go.Lib

set_option maxRecDepth 100000 in
set_option maxHeartbeats 8000000 in
theorem rview_read (w : World) {lo V Y U n m : Nat} {t last : Int} {a : Nat} {S : List (Int × Int)} {P : List (Int × List UInt8)} {L : List (Int × Int × List UInt8)} (h : RvAt w lo V Y U t S n) (hU : RbAt w U P) (hY : RyAt w Y L last) (hP : P.length ≤ 1000) (hL : L.length ≤ 100000) (hS : S.length ≤ 63) (hSi : InE S) (hn : n ≤ 10000)
    (hm0 : 1 ≤ m) (hm1 : m ≤ 16) (ha : a + m ≤ 258) (hlo : lo ≤ w.heap.size) :
    Calls Tryz.prog 97 #[.pointer (some ⟨V, 0, none⟩), .agg #[.int .i64 a, .int .i64 m]] w fun e w' => ∃ v, e = .returned (.tuple #[v, .int .i64 0]) ∧
      w'.ownsRow w.heap.size 5 1 v (40 * m) (Lib.byteCells ((List.range m).flatMap fun i => viewG P L t (a + i : Nat))) ∧ RvAt w' lo V Y U t (rput S (a, m)) (n + m) ∧ RrX w w' V := by
  have hme : MayE a m := by unfold MayE; omega
  have g0 := heap_new w (.cells #[.int .i64 a, .int .i64 m] 79)
  have k0 : Chg [] w (w.alloc (.cells #[.int .i64 a, .int .i64 m] 79)) := Chg.alloc w _
  obtain ⟨sv, rv, xs, hV, hE, hR⟩ := h
  have hV1 := k0.heap hV (by simp)
  have a0 : (w.alloc (.cells #[.int .i64 a, .int .i64 m] 79)).cell? ⟨w.heap.size, 0, none⟩ = some (.int .i64 a) := cell_is g0 0 rfl
  have a1 : (w.alloc (.cells #[.int .i64 a, .int .i64 m] 79)).cell? ⟨w.heap.size, 1, none⟩ = some (.int .i64 m) := cell_is g0 1 rfl
  have v0 : (w.alloc (.cells #[.int .i64 a, .int .i64 m] 79)).cell? ⟨V, 0, none⟩ = some (.pointer (some ⟨Y, 0, none⟩)) := cell_is hV1 0 rfl
  have HI := Lib.hid (rin_any (w.alloc (.cells #[.int .i64 a, .int .i64 m] 79)).drew ((hY.keep k0).keep (Chg.refl [] _).drew) hme (by omega))
  have HH := Lib.hid (And.intro hE (And.intro hR (And.intro hU (And.intro hY (And.intro hSi (And.intro k0 hV))))))
  have hm2 : ¬ (m : Int) < 1 := by omega
  have hm3 : ¬ (16 : Int) < m := by omega
  clear hE hR hU hY hSi k0 hV
  go_enter Tryz.func97, Tryz.ntmps97
  go_wp2_with fail
  generalize w.alloc (.cells #[.int .i64 a, .int .i64 m] 79) = w1 at *
  generalize hz : w.heap.size = z at *
  go_region_held3 (fun wx => wx.cell? ⟨z, 0, none⟩ = some (.int .i64 a) ∧ wx.cell? ⟨z, 1, none⟩ = some (.int .i64 m) ∧ wx.cell? ⟨V, 0, none⟩ = some (.pointer (some ⟨Y, 0, none⟩)))
    (first | (exact ⟨a0, a1, v0⟩) | (exact ⟨k2.cell a0 (by simp), k2.cell a1 (by simp), k2.cell v0 (by simp)⟩))
    (first | (go_at_call 166; refine HI.out.mono ?_; rintro e w2 ⟨rfl, k2⟩))
  have kk2 : Chg [] w1 w2 := (Chg.refl [] w1).drew.then k2
  have g2 := kk2.heap g0 (by simp)
  have hV2 := kk2.heap hV1 (by simp)
  have a0 : w2.cell? ⟨z, 0, none⟩ = some (.int .i64 a) := cell_is g2 0 rfl
  have a1 : w2.cell? ⟨z, 1, none⟩ = some (.int .i64 m) := cell_is g2 1 rfl
  have hk : Chg [] w w2 := HH.out.2.2.2.2.2.1.then kk2
  have kx : Chg [] w2 (w2.drew.alloc (.cells #[.int .i64 a, .int .i64 m] 79)) := (Chg.refl [] w2).drew.then_alloc _
  have kx0 := heap_new w2.drew (.cells #[.int .i64 a, .int .i64 m] 79)
  have hVz : V ≠ z := by
    intro e
    rw [e] at hV2
    rw [g2] at hV2
    cases hV2
  have hSp : Sp (w2.drew.alloc (.cells #[.int .i64 a, .int .i64 m] 79)) w2.drew.heap.size 0 [((a : Int), (m : Int))] := fun j u hu => by
    match j with
    | 0 => cases hu; exact cell_is kx0 0 rfl
    | 1 => cases hu; exact cell_is kx0 1 rfl
    | j + 2 => simp [spCells] at hu
  have hlen : ((rput S ((a : Int), (m : Int))).length : Int) ≤ 64 := by
    have := rput_len S ((a : Int), (m : Int))
    omega
  have HA := Lib.hid (radd_one (w2.drew.alloc (.cells #[.int .i64 a, .int .i64 m] 79)) (B := V) (o := 3) (c := 1) (kx.heap hV2 (by simp)) rfl rfl ((ExR.own HH.out.1 rfl).keep (hk.then kx)) (by omega) HH.out.2.2.2.2.1 hme hSp hlen)
  clear g0 hV1 v0 kk2 k2 kx0 hSp hlen
  go_wp2_with fail
  go_region_held3 (fun wx => wx.cell? ⟨z, 0, none⟩ = some (.int .i64 a) ∧ wx.cell? ⟨z, 1, none⟩ = some (.int .i64 m))
    (first | (exact ⟨a0, a1⟩) | (exact ⟨kx.cell a0 (by simp), kx.cell a1 (by simp)⟩) | (exact ⟨k3.cell (kx.cell a0 (by simp)) (by simpa using hVz.symm), k3.cell (kx.cell a1 (by simp)) (by simpa using hVz.symm)⟩))
    (first | (go_at_call 167; refine HA.out.mono ?_; rintro e w3 ⟨rfl, sv', hV3, k3, ho3⟩))
  have hk3 : Chg [V] w w3 := (((hk.then kx).mono (fun x hx _ => by cases hx)).then k3)
  have hV3' : w3.heap[V]? = some (.cells #[.pointer (some ⟨Y, 0, none⟩), .pointer (some ⟨U, 0, none⟩), .int .i64 t, .int .i64 64, sv', rv] 180 (0, 0)) := hV3
  have hE3 : w3.ownsRow lo 79 2 sv' (rput S ((a : Int), (m : Int))).length (spCells (rput S ((a : Int), (m : Int)))) := own_low ho3 (by have := (hk.then kx).size; omega)
  have H3 := Lib.hid (And.intro hV3' (And.intro hE3 hk3))
  have gz3 := k3.heap (kx.heap g2 (by simp)) (by simpa using hVz.symm)
  clear hV3 hV3' hE3 hk3 ho3 hk kx a0 a1 g2 hV2 HA HI k3
  go_wp2_with fail
  obtain ⟨zb, hzb⟩ : ∃ zb, zb = w3.heap.size := ⟨_, rfl⟩
  have hV3 := H3.out.1
  have hRo : w3.ownsRow lo 255 3 rv n xs := own_kp HH.out.2.1 H3.out.2.2 (fun g hg hm => by
    rw [List.mem_singleton] at hm
    obtain ⟨-, cs, hh⟩ := own_elem HH.out.2.1 hg
    rw [hm, HH.out.2.2.2.2.2.2] at hh
    cases hh)
  have hAv : ∀ T : List Nat, (∀ x ∈ T, x < w3.heap.size → x = V ∨ rv.ownBlock = some x) → Av w3 T [173, 5, 50, 247, 259, 79] := fun T hT x hx cs t fr hh => by
    rcases hT x hx (heap_lt hh) with rfl | hr
    · rw [hV3] at hh
      cases hh
      decide
    · obtain ⟨-, cs', hh'⟩ := own_elem hRo hr
      rw [hh] at hh'
      cases hh'
      decide
  have hU3 : RbAt w3 U P := HH.out.2.2.1.keepA H3.out.2.2 (Av.row HH.out.2.2.2.2.2.2 (by decide))
  have hY3 : RyAt w3 Y L last := HH.out.2.2.2.1.keepA H3.out.2.2 (Av.row HH.out.2.2.2.2.2.2 (by decide))
  have HL := Lib.hid (And.intro hRo (And.intro hAv (And.intro hU3 (And.intro hY3 gz3))))
  clear hV3 hRo hAv hU3 hY3 gz3
  go_loopw [6, 7, 8, 9] (fun ov iv _ _ wr => ∃ (i : Nat) (rv' : Value) (xs' : List Value) (T : List Nat), iv = .int .i64 i ∧ i ≤ m ∧ wr.ownsRow zb 5 1 ov (40 * i) (Lib.byteCells ((List.range i).flatMap fun i => viewG P L t (a + i : Nat))) ∧
    wr.heap[V]? = some (.cells #[.pointer (some ⟨Y, 0, none⟩), .pointer (some ⟨U, 0, none⟩), .int .i64 t, .int .i64 64, sv', rv'] 180 (0, 0)) ∧ wr.ownsRow lo 255 3 rv' (n + i) xs' ∧ Chg T w3 wr ∧ (∀ x ∈ T, x < w3.heap.size → x = V ∨ rv.ownBlock = some x) ∧ (∀ x, rv'.ownBlock = some x → x < w3.heap.size → rv.ownBlock = some x)) (fun _ iv _ _ _ => m - (intOf iv).toNat)
  case atStart => exact ⟨0, rv, xs, [], rfl, Nat.zero_le _, World.ownsRow_nil _ _ _ _, H3.out.1, HL.out.1, Chg.refl _ _, fun x hx => (by cases hx), fun x hx _ => hx⟩
  case round =>
    obtain ⟨i, rv', xs', T, rfl, hi, ho, hVr, hRr, kT, hT, hrb⟩ := hrel
    have hAT := HL.out.2.1 T hT
    have gzr := kT.heap HL.out.2.2.2.2 (hAT.ne HL.out.2.2.2.2 (by simp))
    have b0 : wr.cell? ⟨z, 0, none⟩ = some (.int .i64 a) := cell_is gzr 0 rfl
    have b1 : wr.cell? ⟨z, 1, none⟩ = some (.int .i64 m) := cell_is gzr 1 rfl
    clear gzr
    by_cases hlt : i < m
    · have hlti : (i : Int) < m := by omega
      have v0 : wr.cell? ⟨V, 0, none⟩ = some (.pointer (some ⟨Y, 0, none⟩)) := cell_is hVr 0 rfl
      have v1 : wr.cell? ⟨V, 1, none⟩ = some (.pointer (some ⟨U, 0, none⟩)) := cell_is hVr 1 rfl
      have v2 : wr.cell? ⟨V, 2, none⟩ = some (.int .i64 t) := cell_is hVr 2 rfl
      have hUr := HL.out.2.2.1.keepA kT (fun x hx cs t fr hh hm => hAT x hx cs t fr hh (by simp at hm; rcases hm with rfl | rfl | rfl <;> simp))
      have hYr := HL.out.2.2.2.1.keepA kT (fun x hx cs t fr hh hm => hAT x hx cs t fr hh (by simp at hm; rcases hm with rfl | rfl | rfl <;> simp))
      have hw : IntKind.i64.wrap ((a : Int) + (i : Int)) = (a : Int) + (i : Int) := by rw [IntKind.wrap_i64]; omega
      have HB := Lib.hid (rbuf_get2 wr.drew (hUr.keep (Chg.refl [] wr).drew) hP hw)
      have HM := Lib.hid (fun wx (hx : Chg [] wr wx) => rmap_get2 wx (t := t) (hYr.keep hx) hL (by omega) (by omega) hw)
      have HX := Lib.hid (And.intro ho (And.intro hVr (And.intro hRr (And.intro kT (And.intro hT hrb)))))
      have HVr : Hid (V ∉ rv'.ownBlock.toList) := Lib.hid (fun hm => by
        obtain ⟨-, cs, hh⟩ := own_elem hRr (show rv'.ownBlock = some V by simpa using hm)
        rw [hVr] at hh
        cases hh)
      have HB0 := Lib.hid b0
      clear ho hVr hRr kT hT hrb hAT hUr hYr hw
      go_wp2_with fail
      go_region_held3 (fun wx => wx.cell? ⟨z, 0, none⟩ = some (.int .i64 a) ∧ wx.cell? ⟨V, 1, none⟩ = some (.pointer (some ⟨U, 0, none⟩)))
        (first | (exact ⟨b0, v1⟩))
        (first | (go_at_call 168; refine HB.out.mono ?_; rintro e w4 ⟨xv, rfl, rfl, hxv⟩))
      obtain ⟨r, hr⟩ : ∃ r, r = bufG P ((a : Int) + (i : Int)) := ⟨_, rfl⟩
      rw [← hr] at hxv ⊢
      have HR := Lib.hid (And.intro hr hxv)
      clear hr hxv HB
      go_upto_if 51 with fail
      go_cut [8] from 52 to 68 (fun xv wx => Chg [] wr wx ∧ DatX wx xv (viewG P L t ((a : Int) + (i : Int))))
      case first =>
        cases r with
        | none =>
          go_wp2_with fail
          have kd : Chg [] wr wr.drew := (Chg.refl [] wr).drew
          go_region_held3 (fun wx => wx.cell? ⟨z, 0, none⟩ = some (.int .i64 a) ∧ wx.cell? ⟨V, 0, none⟩ = some (.pointer (some ⟨Y, 0, none⟩)) ∧ wx.cell? ⟨V, 2, none⟩ = some (.int .i64 t))
            (first | (exact ⟨b0, v0, v2⟩) | (exact ⟨k5.cell b0 (by simp), k5.cell v0 (by simp), k5.cell v2 (by simp)⟩))
            (first | (go_at_call 169; refine (HM.out _ (by first | exact kd | exact kd.drew)).mono ?_; rintro e w5 ⟨v5, rfl, k5, hd5⟩))
          have K5 : Chg [] wr w5 := by first | exact kd.then k5 | exact kd.drew.then k5
          go_wp2_with fail
          go_meet
          exact ⟨K5, by unfold viewG; rw [← HR.out.1]; exact hd5⟩
        | some x =>
          go_wp2_with fail
          go_meet
          exact ⟨(Chg.refl [] wr).drew, by unfold viewG; rw [← HR.out.1]; exact HR.out.2 x rfl⟩
      case rest =>
        obtain ⟨K5, hd5⟩ := hcut
        have hV5 := K5.heap HX.out.2.1 (by simp)
        have b5 : wc.cell? ⟨z, 0, none⟩ = some (.int .i64 a) := K5.cell b0 (by simp)
        have v5r : wc.cell? ⟨V, 5, none⟩ = some rv' := cell_is hV5 5 rfl
        have b5d : wc.drew.cell? ⟨z, 0, none⟩ = some (.int .i64 a) := b5
        have v5d : wc.drew.cell? ⟨V, 5, none⟩ = some rv' := v5r
        have b5a : ∀ o, (wc.alloc o).cell? ⟨z, 0, none⟩ = some (.int .i64 a) := fun o => (Chg.alloc (S := []) wc o).cell b5 (by simp)
        have v5a : ∀ o, (wc.alloc o).cell? ⟨V, 5, none⟩ = some rv' := fun o => (Chg.alloc (S := []) wc o).cell v5r (by simp)
        clear b0 b1 v0 v1 v2
        go_wp2_with fail
        have hz5 : (wc.alloc (.cells #[] 5)).drew.heap[wc.heap.size]? = some (.cells #[] 5 (0, 0)) := heap_new wc _
        have ka : Chg [] wr (wc.alloc (.cells #[] 5)).drew := (K5.then_alloc _).drew
        obtain ⟨v6, w6, hrun, k6, hd6⟩ := run_copy40 _ 47 hz5 (hd5.keep ((Chg.refl [] wc).then_alloc (.cells #[] 5)).drew)
        have hd56 : DatX w6 u8 (viewG P L t ((a : Int) + (i : Int))) := by
          have h1 := hd5.keep ((Chg.refl [] wc).then_alloc (.cells #[] 5)).drew
          obtain ⟨g5, o5, c5, e5, q1, q2, q3, q4⟩ := h1
          have hne : g5 ∉ [wc.heap.size] := by
            obtain ⟨g5', o5', c5', e5', -, -, -, cs, hh⟩ := hd5
            rw [e5] at e5'
            cases e5'
            have := heap_lt hh
            simp
            omega
          exact ⟨g5, o5, c5, e5, q1, q2, q3.chgT k6 hne, q4.keep k6 hne⟩
        have hV6 := k6.heap (ka.heap HX.out.2.1 (by simp)) (by have := heap_lt hV5; simp; omega)
        have hR6 : w6.ownsRow lo 255 3 rv' (n + i) xs' := own_kp (own_kp HX.out.2.2.1 ka (fun g hg hm => by cases hm)) k6 (fun g hg hm => by
          obtain ⟨-, cs, hh⟩ := own_elem HX.out.2.2.1 hg
          have := heap_lt hh
          have := K5.size
          rw [List.mem_singleton] at hm
          omega)
        have hK6 : Chg [] wr w6 := ka.trans k6 (fun x hx hlt => by
          have := K5.size
          rw [List.mem_singleton] at hx
          omega)
        have hlo6 : lo ≤ w6.heap.size := by
          have h1 := hK6.size
          have h2 := HX.out.2.2.2.1.size
          have h3 := H3.out.2.2.size
          omega
        obtain ⟨g6, o6, c6, rfl, hd6⟩ := hd6
        have b6 : w6.cell? ⟨z, 0, none⟩ = some (.int .i64 a) := hK6.cell HB0.out (by simp)
        have r6 : w6.cell? ⟨V, 5, none⟩ = some rv' := cell_is hV6 5 rfl
        have r6a : ∀ o, (w6.alloc o).cell? ⟨V, 5, none⟩ = some rv' := fun o => (Chg.alloc (S := []) w6 o).cell r6 (by simp)
        obtain ⟨ii, hi0, hz0, hz1, hz2⟩ := info_parts infRd
        obtain ⟨E, hE⟩ : ∃ E : Array Value, E = #[.int .i64 (IntKind.i64.wrap ((a : Int) + (i : Int))), .slice (some ⟨g6, o6, none⟩) 40 c6, .bool r.isSome] := ⟨_, rfl⟩
        have hnew := heap_new w6 (.cells E 255)
        have hal : ∀ j u, E.toList[j]? = some u → (w6.alloc (.cells E 255)).cell? ((⟨w6.heap.size, 0, none⟩ : Addr).add j) = some u := fun j u hu => by
          rw [add_lit, Nat.zero_add]
          exact cell_is hnew j (by simpa using hu)
        obtain ⟨v7, w7, hrun7, ho7, hg7, -, hb7⟩ := run_append_own_at (P := Tryz.prog) (w6.alloc (.cells E 255)) lo 178 178 255 ii _ 3 40 tyRd hi0 hz0 hz1 hz2 rfl (by decide) rv' (n + i) xs' (hR6.alloc _) ⟨w6.heap.size, 0, none⟩ 1 1 E.toList (by rw [hE]; rfl) hal (by rw [hE]; simp [Value.oneCell']) (by unfold maxLen; omega) (by omega) (by have := (Chg.alloc (S := []) w6 (.cells E 255)).size; omega)
        have kb7 : Chg rv'.ownBlock.toList (w6.alloc (.cells E 255)) w7 := Chg.own hg7 (fun g hg _ => by simp [hg])
        have hV7 := kb7.heap ((Chg.alloc (S := []) w6 (.cells E 255)).heap hV6 (by simp)) HVr.out
        have c7 := cell_is hV7 5 rfl
        have f7 := unfrozen hV7 5
        obtain ⟨p7, q7, rfl, hq7⟩ := own_form ho7
        have H7 := Lib.hid (And.intro ho7 (And.intro hb7 (And.intro kb7 (And.intro hV7 (And.intro hK6 hd56)))))
        clear hal hnew ho7 hb7 hg7 kb7 hV7 hK6 hd6 hd56
        subst hE
        go_upto_region 14 with fail
        go_cut [] from 68 to 86 (fun wx => wx = w7.setCell ⟨V, 5, none⟩ (.slice p7 (n + i + 1) q7))
        case first =>
          go_region_law
            (first
              | (refine step_append_run rfl (.tmp 77) (.tmp 78) 47 47 rfl _ _ rfl rfl _ w6 hrun ?_)
              | (refine step_append_run rfl (.tmp 72) (.tmp 82) 178 178 rfl _ _ rfl rfl _ w7 hrun7 ?_))
          all_goals
            go_wp2_with fail
            go_meet
            rfl
        case rest =>
          obtain ⟨ho7, hb7, kb7, hV7, hK6, hd56⟩ := H7.out
          subst hcut
          have kV : Chg [V] w7 (w7.setCell ⟨V, 5, none⟩ (.slice p7 (n + i + 1) q7)) := Chg.set w7 V 5 _
          have ka6 : Chg [] w6 (w6.alloc (.cells #[.int .i64 (IntKind.i64.wrap ((a : Int) + (i : Int))), .slice (some ⟨g6, o6, none⟩) 40 c6, .bool r.isSome] 255)) := Chg.alloc w6 _
          have hV8 := heap_set hV7 5 (.slice p7 (n + i + 1) q7) rfl
          have hV6a := ka6.heap hV6 (by simp)
          have hR6a := own_kp hR6 ka6 (fun g hg hm => by cases hm)
          have av7 : Av (w6.alloc (.cells #[.int .i64 (IntKind.i64.wrap ((a : Int) + (i : Int))), .slice (some ⟨g6, o6, none⟩) 40 c6, .bool r.isSome] 255)) rv'.ownBlock.toList [5] := fun x hx cs t fr hh => by
            obtain ⟨-, cs', hh'⟩ := own_elem hR6a (show rv'.ownBlock = some x by simpa using hx)
            rw [hh] at hh'
            cases hh'
            decide
          have hd8 := ((hd56.keep ka6).keepA kb7 av7).keepA kV (Av.row hV7 (by decide))
          have ho8 : (w7.setCell ⟨V, 5, none⟩ (.slice p7 (n + i + 1) q7)).ownsRow zb 5 1 u6 (40 * i) (Lib.byteCells ((List.range i).flatMap fun i => viewG P L t (a + i : Nat))) := by
            refine own_kp (own_kp (own_kp (own_kp HX.out.1 hK6 (fun g hg hm => by cases hm)) ka6 (fun g hg hm => by cases hm)) kb7 (fun g hg hm => ?_)) kV (fun g hg hm => ?_)
            · obtain ⟨-, cs, hh⟩ := own_elem (own_kp (own_kp HX.out.1 hK6 (fun g hg hm => by cases hm)) ka6 (fun g hg hm => by cases hm)) hg
              exact av7 g hm _ _ _ hh (by simp)
            · obtain ⟨-, cs, hh⟩ := own_elem HX.out.1 hg
              rw [List.mem_singleton] at hm
              rw [hm, HX.out.2.1] at hh
              cases hh
          obtain ⟨gx, ox, cx, rfl, hcx, hlx, hbx, -⟩ := hd8
          have hR8 := own_kp ho7 kV (fun g hg hm => by
            obtain ⟨-, cs, hh⟩ := own_elem ho7 hg
            rw [List.mem_singleton] at hm
            rw [hm, hV7] at hh
            cases hh)
          have hzb8 : zb ≤ (w7.setCell ⟨V, 5, none⟩ (.slice p7 (n + i + 1) q7)).heap.size := by
            have h1 := HX.out.2.2.2.1.size
            have h2 := hK6.size
            have h3 := ka6.size
            have h4 := kb7.size
            have h5 := kV.size
            omega
          have H8 := Lib.hid (And.intro hV8 (And.intro hR8 (And.intro hlx (And.intro hbx (And.intro ka6 kV)))))
          have HO8 := Lib.hid ho8
          clear hV8 hR8 hV6a hR6a av7 ho8 hV7 ho7 hd56
          generalize hw8 : w7.setCell ⟨V, 5, none⟩ (.slice p7 (n + i + 1) q7) = w8 at *
          go_wp2_with (at_builtin; refine wpList_append_bs rfl (.tmp 86) (.tmp 87) 47 5 rfl ty23 inf5c zb u6 (40 * i) _ rfl HO8.out (some ⟨gx, ox, none⟩) 40 cx _ rfl H8.out.2.2.1 H8.out.2.2.2.1 (by omega) hzb8 ?_; intro v9 w9 hap9)
          have k9 : Chg u6.ownBlock.toList w8 w9 := Chg.own hap9.2.2 (fun g hg _ => by simp [hg])
          have H9 := Lib.hid (And.intro hap9.1 k9)
          clear hap9 k9
          go_wp2_with fail
          go_roundw
          case rel =>
            obtain ⟨ho9, k9⟩ := H9.out
            obtain ⟨hV8, hR8, -, -, ka6, kV⟩ := H8.out
            obtain ⟨ho, hVr, hRr, kT, hT, hrb⟩ := HX.out
            have hzr := kT.size
            have hz6 := hK6.size
            have hz7 := ka6.size
            have hu : ∀ g, u6.ownBlock = some g → w3.heap.size ≤ g ∧ ∃ cs, w8.heap[g]? = some (.cells cs 5 (0, 0)) := fun g hg => by
              obtain ⟨h1, cs, h2⟩ := own_elem HO8.out hg
              exact ⟨by omega, cs, h2⟩
            have hV9 := k9.heap hV8 (fun hm => by
              obtain ⟨-, cs, hh⟩ := hu V (by simpa using hm)
              rw [hV8] at hh
              cases hh)
            have hR9 := own_kp hR8 k9 (fun g hg hm => by
              obtain ⟨-, cs, hh⟩ := hu g (by simpa using hm)
              obtain ⟨-, cs', hh'⟩ := own_elem hR8 hg
              rw [hh] at hh'
              cases hh')
            have e1 : ((List.range (i + 1)).flatMap fun i => viewG P L t (a + i : Nat)) = ((List.range i).flatMap fun i => viewG P L t (a + i : Nat)) ++ viewG P L t ((a : Int) + (i : Int)) := by
              rw [List.range_succ, List.flatMap_append, List.flatMap_singleton]
              congr 2
            have e2 : 40 * (i + 1) = 40 * i + 40 := by omega
            refine ⟨i + 1, _, _, V :: (rv'.ownBlock.toList ++ (T ++ u6.ownBlock.toList)), by go_num, hlt, ?_, hV9, hR9, ?_, fun x hx hl => ?_, fun x hx hl => ?_⟩
            · rw [e1, e2]
              exact ho9
            · exact (((((kT.mono (fun x hx _ => by simp [hx])).then (hK6.mono (fun x hx _ => by cases hx))).then (ka6.mono (fun x hx _ => by cases hx))).then (kb7.mono (fun x hx _ => by simp only [List.mem_cons, List.mem_append]; exact Or.inr (Or.inl hx)))).then (kV.mono (fun x hx _ => by rw [List.mem_singleton] at hx; simp [hx]))).then (k9.mono (fun x hx _ => by simp only [List.mem_cons, List.mem_append]; exact Or.inr (Or.inr (Or.inr hx))))
            · simp only [List.mem_cons, List.mem_append] at hx
              rcases hx with rfl | hx | hx | hx
              · exact Or.inl rfl
              · exact Or.inr (hrb x (by simpa using hx) hl)
              · exact hT x hx hl
              · have := (hu x (by simpa using hx)).1
                omega
            · rcases hb7 with e | e
              · exact hrb x (e.symm.trans hx) hl
              · have e1 := e.symm.trans hx
                have e2 := Option.some.inj e1
                omega
          case measure => simp [intOf]; omega
    · obtain rfl : i = m := by omega
      have hF : RvAt wr lo V Y U t (rput S ((a : Int), (i : Int))) (n + i) ∧ RrX w wr V := by
        have h3 := H3.out
        refine ⟨⟨sv', rv', xs', hVr, own_kp h3.2.1 kT (fun g hg hm => ?_), hRr⟩, rv, rv', V :: T, cell_is HH.out.2.2.2.2.2.2 5 rfl, cell_is hVr 5 rfl, (h3.2.2.mono (fun x hx _ => by rw [List.mem_singleton] at hx; simp [hx])).then (kT.mono (fun x hx _ => List.mem_cons_of_mem _ hx)), fun x hx hl => ?_, fun g hg hl => ?_⟩
        · obtain ⟨-, cs, hh⟩ := own_elem h3.2.1 hg
          exact hAT g hm _ _ _ hh (by simp)
        · rcases List.mem_cons.1 hx with e | hx
          · exact Or.inl e
          · exact hT x hx (Nat.lt_of_lt_of_le hl h3.2.2.size)
        · exact hrb g hg (Nat.lt_of_lt_of_le hl h3.2.2.size)
      have HX := Lib.hid (And.intro ho (And.intro hF H3.out.2.2.size))
      clear ho hVr hRr kT hT hrb hAT hF
      go_wp2_with fail
      go_ret2
      exact ⟨_, rfl, own_low HX.out.1 (by have := HX.out.2.2; omega), HX.out.2.1.1, HX.out.2.1.2⟩
end Go.Proofs.YtelakcjbknbehaaGreat
-- Fh
namespace Go.Proofs.YtelakcjbknbehaaGreat
open Go.RowKit Go.Lib

theorem own_last {w : World} {base e n : Nat} {v k : Value} {xs : List Value} (h : w.ownsRow base e 1 v (n + 1) (xs ++ [k])) : ∃ g c, v = .slice (some ⟨g, 0, none⟩) (n + 1) c ∧ n + 1 ≤ c ∧ w.cell? ⟨g, n, none⟩ = some k := by
  have hx : xs.length = n := by have := h.1; simp at this; omega
  rcases h.2 with ⟨e, h0⟩ | ⟨g, cap, cur, e, hA, hg, h1, h2, h3, h4⟩
  · omega
  · refine ⟨g, cap, e, h1, ?_⟩
    have h5 := congrArg (fun l => l[n]?) h4
    simp only [List.getElem?_take] at h5
    rw [if_pos (by omega), List.getElem?_append_right (by omega), hx, Nat.sub_self] at h5
    unfold World.cell?
    rw [hg]
    simpa using h5
set_option maxRecDepth 100000 in
set_option maxHeartbeats 2000000 in
theorem ropen_last (w : World) {lo G Y D V U n : Nat} {hv tv Tv qv qhv : Value} {xs : List Value} {nn num giv dn out tm cd : Int} (h : RmS w G Y hv tv Tv qv qhv nn num giv dn out) (hT : w.ownsRow lo 163 1 Tv (n + 1) (xs ++ [.pointer (some ⟨D, 0, none⟩)])) (hD : RtAt w D V U 1 tm cd) (hn : n ≤ 100000) :
    Calls Tryz.prog 96 #[.pointer (some ⟨G, 0, none⟩), .int .i64 (n + 1 : Nat)] w fun e w' => e = .returned (.pointer (some ⟨D, 0, none⟩)) ∧ w = w' := by
  obtain ⟨g, c, rfl, hc, hk⟩ := own_last hT
  have c5 : w.cell? ⟨G, 5, none⟩ = some (.slice (some ⟨g, 0, none⟩) (n + 1) c) := cell_is h 5 rfl
  have d0 : w.cell? ⟨D, 0, none⟩ = some (.int .i64 1) := cell_is hD 0 rfl
  clear h hT hD
  have q0 : decide (((n + 1 : Nat) : Int) < 1) = false := decide_eq_false (by omega)
  go_enter Tryz.func96, Tryz.ntmps96
  go_wp2_with fail
  go_ret
  exact ⟨rfl, rfl⟩
end Go.Proofs.YtelakcjbknbehaaGreat
namespace Go.Proofs.YtelakcjbknbehaaGreat
open Go.RowKit Go.Lib

/-- what a buffer holds behind a put: done tells whether the put stands already. -/
def bufA (b : Int) (d : List UInt8) : Bool → List (Int × List UInt8) → List (Int × List UInt8)
  | true, [] => []
  | false, [] => [(b, d)]
  | true, p :: l => (if p.1 = b then [] else [p]) ++ bufA b d true l
  | false, p :: l => if b ≤ p.1 then (b, d) :: ((if p.1 = b then [] else [p]) ++ bufA b d true l) else p :: bufA b d false l
def bufPut (l : List (Int × List UInt8)) (b : Int) (d : List UInt8) : List (Int × List UInt8) := bufA b d false l
theorem bufG_nil (b : Int) : bufG [] b = none := rfl
theorem bufG_cons (p : Int × List UInt8) (l : List (Int × List UInt8)) (b : Int) : bufG (p :: l) b = if p.1 = b then some p.2 else bufG l b := by
  unfold bufG
  rw [List.find?_cons]
  by_cases h : p.1 = b <;> simp [h]
theorem bufA_true (b : Int) (d : List UInt8) (c : Int) (hc : c ≠ b) : ∀ l, bufG (bufA b d true l) c = bufG l c
  | [] => rfl
  | p :: l => by
    unfold bufA
    by_cases h : p.1 = b
    · rw [if_pos h, List.nil_append, bufA_true b d c hc l, bufG_cons, if_neg (by omega)]
    · rw [if_neg h, List.cons_append, List.nil_append, bufG_cons, bufG_cons, bufA_true b d c hc l]
theorem bufG_put (b : Int) (d : List UInt8) (c : Int) : ∀ l, bufG (bufPut l b d) c = if c = b then some d else bufG l c
  | [] => by
    show bufG [(b, d)] c = _
    rw [bufG_cons]
    by_cases h : c = b
    · rw [if_pos h.symm, if_pos h]
    · rw [if_neg (Ne.symm h), if_neg h]
  | p :: l => by
    have ih := bufG_put b d c l
    unfold bufPut at ih ⊢
    unfold bufA
    by_cases h1 : b ≤ p.1
    · rw [if_pos h1, bufG_cons]
      by_cases h : c = b
      · rw [if_pos h.symm, if_pos h]
      · rw [if_neg (Ne.symm h), if_neg h]
        exact (bufA_true b d c h (p :: l))
    · rw [if_neg h1, bufG_cons, ih, bufG_cons]
      by_cases h : c = b
      · rw [if_neg (by omega), if_pos h, if_pos h]
      · rw [if_neg h, if_neg h]
theorem bufA_len (b : Int) (d : List UInt8) : ∀ k l, (bufA b d k l).length ≤ l.length + (if k then 0 else 1)
  | true, [] => by simp [bufA]
  | false, [] => by simp [bufA]
  | true, p :: l => by
    have := bufA_len b d true l
    unfold bufA
    by_cases h : p.1 = b <;> simp [h] at * <;> omega
  | false, p :: l => by
    have h1 := bufA_len b d true l
    have h2 := bufA_len b d false l
    unfold bufA
    by_cases h : b ≤ p.1
    · rw [if_pos h]
      by_cases h' : p.1 = b <;> simp [h'] at * <;> omega
    · rw [if_neg h]
      simp at *
      omega
/-- strictly rising. -/
def RiseL (l : List (Int × List UInt8)) : Prop := l.Pairwise fun p q => p.1 < q.1
theorem bufA_mem (b : Int) (d : List UInt8) : ∀ k l, ∀ x ∈ bufA b d k l, x ∈ l ∨ x = (b, d)
  | true, [], x, hx => by cases hx
  | false, [], x, hx => by right; simpa [bufA] using hx
  | true, p :: l, x, hx => by
    unfold bufA at hx
    rcases List.mem_append.1 hx with h | h
    · by_cases e : p.1 = b
      · rw [if_pos e] at h; cases h
      · rw [if_neg e] at h; left; rw [List.mem_singleton] at h; rw [h]; exact List.mem_cons_self
    · rcases bufA_mem b d true l x h with h | h
      · exact Or.inl (List.mem_cons_of_mem _ h)
      · exact Or.inr h
  | false, p :: l, x, hx => by
    unfold bufA at hx
    by_cases h1 : b ≤ p.1
    · rw [if_pos h1] at hx
      rcases List.mem_cons.1 hx with h | h
      · exact Or.inr h
      · rcases List.mem_append.1 h with h | h
        · by_cases e : p.1 = b
          · rw [if_pos e] at h; cases h
          · rw [if_neg e] at h; left; rw [List.mem_singleton] at h; rw [h]; exact List.mem_cons_self
        · rcases bufA_mem b d true l x h with h | h
          · exact Or.inl (List.mem_cons_of_mem _ h)
          · exact Or.inr h
    · rw [if_neg h1] at hx
      rcases List.mem_cons.1 hx with h | h
      · left; rw [h]; exact List.mem_cons_self
      · rcases bufA_mem b d false l x h with h | h
        · exact Or.inl (List.mem_cons_of_mem _ h)
        · exact Or.inr h
theorem bufA_rise (b : Int) (d : List UInt8) : ∀ k l, RiseL l → RiseL (bufA b d k l) ∧ (k = true → ∀ x ∈ bufA b d k l, x ∈ l)
  | true, [], h => ⟨List.Pairwise.nil, fun _ x hx => by cases hx⟩
  | false, [], h => ⟨List.pairwise_singleton _ _, fun e => by cases e⟩
  | true, p :: l, h => by
    have hc := List.pairwise_cons.1 h
    obtain ⟨i1, i2⟩ := bufA_rise b d true l hc.2
    unfold bufA
    by_cases e : p.1 = b
    · rw [if_pos e, List.nil_append]
      exact ⟨i1, fun _ x hx => List.mem_cons_of_mem _ (i2 rfl x hx)⟩
    · rw [if_neg e]
      refine ⟨List.pairwise_cons.2 ⟨fun x hx => hc.1 x (i2 rfl x hx), i1⟩, fun _ x hx => ?_⟩
      rcases List.mem_cons.1 hx with h | h
      · rw [h]; exact List.mem_cons_self
      · exact List.mem_cons_of_mem _ (i2 rfl x h)
  | false, p :: l, h => by
    have hc := List.pairwise_cons.1 h
    obtain ⟨i1, i2⟩ := bufA_rise b d true l hc.2
    obtain ⟨j1, -⟩ := bufA_rise b d false l hc.2
    refine ⟨?_, fun e => by cases e⟩
    unfold bufA
    by_cases h1 : b ≤ p.1
    · rw [if_pos h1]
      by_cases e : p.1 = b
      · rw [if_pos e, List.nil_append]
        exact List.pairwise_cons.2 ⟨fun x hx => by have := hc.1 x (i2 rfl x hx); show b < x.1; omega, i1⟩
      · rw [if_neg e]
        refine List.pairwise_cons.2 ⟨fun x hx => ?_, List.pairwise_cons.2 ⟨fun x hx => hc.1 x (i2 rfl x hx), i1⟩⟩
        rcases List.mem_cons.1 hx with hx | hx
        · rw [hx]; show b < p.1; omega
        · have := hc.1 x (i2 rfl x hx); show b < x.1; omega
    · rw [if_neg h1]
      refine List.pairwise_cons.2 ⟨fun x hx => ?_, j1⟩
      rcases bufA_mem b d false l x hx with hx | hx
      · exact hc.1 x hx
      · rw [hx]; show p.1 < b; omega
/-- versions with a transaction's puts between. -/
def mergeR (t : Int) : List (Int × Int × List UInt8) → List (Int × List UInt8) → List (Int × Int × List UInt8)
  | [], ps => ps.map fun p => (p.1, t, p.2)
  | v :: L, ps => ((ps.takeWhile fun p => decide (p.1 < v.1)).map fun p => (p.1, t, p.2)) ++ v :: mergeR t L (ps.dropWhile fun p => decide (p.1 < v.1))
theorem mergeR_nil (t : Int) (p : Int × List UInt8) (ps : List (Int × List UInt8)) : mergeR t [] (p :: ps) = (p.1, t, p.2) :: mergeR t [] ps := rfl
theorem mergeR_lt (t : Int) {v : Int × Int × List UInt8} {L : List (Int × Int × List UInt8)} {p : Int × List UInt8} {ps : List (Int × List UInt8)} (h : p.1 < v.1) : mergeR t (v :: L) (p :: ps) = (p.1, t, p.2) :: mergeR t (v :: L) ps := by
  unfold mergeR
  rw [List.takeWhile_cons_of_pos (by simpa using h), List.dropWhile_cons_of_pos (by simpa using h)]
  rfl
theorem mergeR_ge (t : Int) {v : Int × Int × List UInt8} {L : List (Int × Int × List UInt8)} {p : Int × List UInt8} {ps : List (Int × List UInt8)} (h : ¬ p.1 < v.1) : mergeR t (v :: L) (p :: ps) = v :: mergeR t L (p :: ps) := by
  rw [mergeR, List.takeWhile_cons_of_neg (by simpa using h), List.dropWhile_cons_of_neg (by simpa using h)]
  rfl
theorem mergeR_end (t : Int) {v : Int × Int × List UInt8} {L : List (Int × Int × List UInt8)} : mergeR t (v :: L) [] = v :: mergeR t L [] := rfl
theorem mergeR_len (t : Int) : ∀ L ps, (mergeR t L ps).length = L.length + ps.length
  | [], ps => by simp [mergeR]
  | v :: L, [] => by rw [mergeR_end, List.length_cons, mergeR_len t L []]; simp
  | v :: L, p :: ps => by
    by_cases h : p.1 < v.1
    · rw [mergeR_lt t h, List.length_cons, mergeR_len t (v :: L) ps]; simp; omega
    · rw [mergeR_ge t h, List.length_cons, mergeR_len t L (p :: ps)]; simp; omega
theorem mergeR_mem (t : Int) : ∀ L ps x, x ∈ mergeR t L ps → x ∈ L ∨ ∃ p ∈ ps, x = (p.1, t, p.2)
  | [], ps, x, hx => by
    obtain ⟨p, hp, e⟩ := List.mem_map.1 hx
    exact Or.inr ⟨p, hp, e.symm⟩
  | v :: L, [], x, hx => by
    rw [mergeR_end] at hx
    rcases List.mem_cons.1 hx with h | h
    · exact Or.inl (by rw [h]; exact List.mem_cons_self)
    · rcases mergeR_mem t L [] x h with h | ⟨p, hp, -⟩
      · exact Or.inl (List.mem_cons_of_mem _ h)
      · cases hp
  | v :: L, p :: ps, x, hx => by
    by_cases h : p.1 < v.1
    · rw [mergeR_lt t h] at hx
      rcases List.mem_cons.1 hx with h | h
      · exact Or.inr ⟨p, List.mem_cons_self, h⟩
      · rcases mergeR_mem t (v :: L) ps x h with h | ⟨q, hq, e⟩
        · exact Or.inl h
        · exact Or.inr ⟨q, List.mem_cons_of_mem _ hq, e⟩
    · rw [mergeR_ge t h] at hx
      rcases List.mem_cons.1 hx with h | h
      · exact Or.inl (by rw [h]; exact List.mem_cons_self)
      · rcases mergeR_mem t L (p :: ps) x h with h | h
        · exact Or.inl (List.mem_cons_of_mem _ h)
        · exact Or.inr h
/-- versions stand by their blocks. -/
def SortV (L : List (Int × Int × List UInt8)) : Prop := L.Pairwise fun p q => p.1 ≤ q.1
theorem mergeR_sort (t : Int) : ∀ L ps, SortV L → RiseL ps → SortV (mergeR t L ps)
  | [], ps, _, h => by
    unfold SortV mergeR
    rw [List.pairwise_map]
    exact h.imp (fun h => by show _ ≤ _; exact Int.le_of_lt h)
  | v :: L, [], h, _ => by
    have hc := List.pairwise_cons.1 h
    rw [mergeR_end]
    refine List.pairwise_cons.2 ⟨fun x hx => ?_, mergeR_sort t L [] hc.2 List.Pairwise.nil⟩
    rcases mergeR_mem t L [] x hx with h | ⟨p, hp, -⟩
    · exact hc.1 x h
    · cases hp
  | v :: L, p :: ps, h, hp => by
    have hc := List.pairwise_cons.1 h
    have hq := List.pairwise_cons.1 hp
    by_cases hl : p.1 < v.1
    · rw [mergeR_lt t hl]
      refine List.pairwise_cons.2 ⟨fun x hx => ?_, mergeR_sort t (v :: L) ps h hq.2⟩
      show p.1 ≤ x.1
      rcases mergeR_mem t (v :: L) ps x hx with h | ⟨q, hq', e⟩
      · rcases List.mem_cons.1 h with h | h
        · rw [h]; omega
        · have := hc.1 x h; omega
      · rw [e]; have := hq.1 q hq'; show p.1 ≤ q.1; omega
    · rw [mergeR_ge t hl]
      refine List.pairwise_cons.2 ⟨fun x hx => ?_, mergeR_sort t L (p :: ps) hc.2 hp⟩
      rcases mergeR_mem t L (p :: ps) x hx with h | ⟨q, hq', e⟩
      · exact hc.1 x h
      · rw [e]
        show v.1 ≤ q.1
        rcases List.mem_cons.1 hq' with h | h
        · rw [h]; omega
        · have := hq.1 q h; omega
/-- what a block's versions are folded to. -/
def verF (b at_ : Int) (r : List UInt8 × Int) (x : Int × Int × List UInt8) : List UInt8 × Int := if x.1 = b ∧ x.2.1 ≤ at_ then (x.2.2, x.2.1) else r
theorem verF_none (b at_ : Int) : ∀ (l : List (Int × Int × List UInt8)) (r : List UInt8 × Int), (∀ x ∈ l, ¬ (x.1 = b ∧ x.2.1 ≤ at_)) → l.foldl (verF b at_) r = r
  | [], r, _ => rfl
  | x :: l, r, h => by
    rw [List.foldl_cons, show verF b at_ r x = r from if_neg (h x List.mem_cons_self)]
    exact verF_none b at_ l r (fun y hy => h y (List.mem_cons_of_mem _ hy))
theorem mergeR_other (t b at_ : Int) : ∀ (L : List (Int × Int × List UInt8)) (ps : List (Int × List UInt8)) (r : List UInt8 × Int), (∀ p ∈ ps, ¬ (p.1 = b ∧ t ≤ at_)) → (mergeR t L ps).foldl (verF b at_) r = L.foldl (verF b at_) r
  | [], ps, r, h => verF_none b at_ _ r (fun x hx => by
      obtain ⟨p, hp, e⟩ := List.mem_map.1 hx
      rw [← e]
      exact h p hp)
  | v :: L, [], r, h => by
    rw [mergeR_end, List.foldl_cons, List.foldl_cons, mergeR_other t b at_ L [] _ h]
  | v :: L, p :: ps, r, h => by
    by_cases hl : p.1 < v.1
    · rw [mergeR_lt t hl, List.foldl_cons, show verF b at_ r (p.1, t, p.2) = r from if_neg (h p List.mem_cons_self)]
      exact mergeR_other t b at_ (v :: L) ps r (fun q hq => h q (List.mem_cons_of_mem _ hq))
    · rw [mergeR_ge t hl, List.foldl_cons, List.foldl_cons, mergeR_other t b at_ L (p :: ps) _ h]
theorem mergeR_this (t at_ : Int) (ht : t ≤ at_) {b : Int} {d : List UInt8} : ∀ (L : List (Int × Int × List UInt8)) (ps : List (Int × List UInt8)) (r : List UInt8 × Int), SortV L → RiseL ps → (b, d) ∈ ps → (mergeR t L ps).foldl (verF b at_) r = (d, t)
  | L, [], r, _, _, h => by cases h
  | [], p :: ps, r, hL, hp, h => by
    have hq := List.pairwise_cons.1 hp
    rw [mergeR_nil, List.foldl_cons]
    rcases List.mem_cons.1 h with e | e
    · subst e
      rw [show verF b at_ r (b, t, d) = (d, t) from if_pos ⟨rfl, ht⟩]
      refine verF_none b at_ _ _ (fun x hx hh => ?_)
      obtain ⟨q, hq', e⟩ := List.mem_map.1 hx
      have h1 := hq.1 q hq'
      have h2 := hh.1
      rw [← e] at h2
      have h3 : q.1 = b := h2
      have h4 : b < q.1 := h1
      omega
    · exact mergeR_this t at_ ht [] ps _ hL hq.2 e
  | v :: L, p :: ps, r, hL, hp, h => by
    have hq := List.pairwise_cons.1 hp
    have hc := List.pairwise_cons.1 hL
    by_cases hl : p.1 < v.1
    · rw [mergeR_lt t hl, List.foldl_cons]
      rcases List.mem_cons.1 h with e | e
      · subst e
        rw [show verF b at_ r (b, t, d) = (d, t) from if_pos ⟨rfl, ht⟩]
        refine verF_none b at_ _ _ (fun x hx hh => ?_)
        have hl' : b < v.1 := hl
        rcases mergeR_mem t (v :: L) ps x hx with h | ⟨q, hq', e⟩
        · rcases List.mem_cons.1 h with h | h
          · rw [h] at hh; have := hh.1; omega
          · have := hc.1 x h; have := hh.1; omega
        · have h1 := hq.1 q hq'
          have h2 := hh.1
          rw [e] at h2
          have h3 : q.1 = b := h2
          have h4 : b < q.1 := h1
          omega
      · exact mergeR_this t at_ ht (v :: L) ps _ hL hq.2 e
    · rw [mergeR_ge t hl, List.foldl_cons]
      exact mergeR_this t at_ ht L (p :: ps) _ hc.2 hp h
theorem verG_fold (l : List (Int × Int × List UInt8)) (b at_ : Int) : verG l b at_ = l.foldl (verF b at_) (zeroB, 0) := rfl
/-- what a block holds behind a transaction. -/
theorem verG_merge {t at_ b : Int} {L : List (Int × Int × List UInt8)} {ps : List (Int × List UInt8)} (hL : SortV L) (hp : RiseL ps) (ht : t ≤ at_) : (verG (mergeR t L ps) b at_).1 = (bufG ps b).getD (verG L b at_).1 := by
  rw [verG_fold, verG_fold]
  cases h : bufG ps b with
  | none =>
    rw [mergeR_other t b at_ L ps _ (fun p hp hh => by
      unfold bufG at h
      rw [Option.map_eq_none_iff, List.find?_eq_none] at h
      exact h p hp (by simpa using hh.1))]
    rfl
  | some d =>
    have hm : (b, d) ∈ ps := by
      unfold bufG at h
      rw [Option.map_eq_some_iff] at h
      obtain ⟨p, h1, h2⟩ := h
      have h3 := List.mem_of_find?_eq_some h1
      have h4 : p.1 = b := by simpa using List.find?_some h1
      rw [← h2, ← h4]
      exact h3
    rw [mergeR_this t at_ ht L ps _ hL hp hm]
    rfl
end Go.Proofs.YtelakcjbknbehaaGreat
namespace Go.Proofs.YtelakcjbknbehaaGreat
open Go.RowKit Go.Lib

/-- a bool is handed back. -/
def isB (e : Ending) : Prop := ∃ r : Bool, e = .returned (.bool r)
set_option maxRecDepth 100000 in
theorem imay_any (w : World) (b n : Int) : Calls Tryz.prog 280 #[.agg #[.int .i64 b, .int .i64 n]] w fun e w' => isB e ∧ Chg [] w w' := by
  have kc : Chg [] w (w.alloc (.cells #[.int .i64 b, .int .i64 n] 79)) := Chg.alloc w _
  by_cases h0 : 0 ≤ b
  · by_cases h1 : b ≤ 1048576
    · by_cases h2 : 1 ≤ n
      · by_cases h3 : n ≤ 1048576
        · have n0 : decide (0 ≤ b) = true := decide_eq_true h0
          have n1 : decide (b ≤ 1048576) = true := decide_eq_true h1
          have n2 : decide (1 ≤ n) = true := decide_eq_true h2
          have n3 : decide (n ≤ 1048576) = true := decide_eq_true h3
          go_enter Tryz.func280, Tryz.ntmps280
          go_wp2_with fail
          go_ret
          exact ⟨⟨_, rfl⟩, kc⟩
        · have n0 : decide (0 ≤ b) = true := decide_eq_true h0
          have n1 : decide (b ≤ 1048576) = true := decide_eq_true h1
          have n2 : decide (1 ≤ n) = true := decide_eq_true h2
          have n3 : decide (n ≤ 1048576) = false := decide_eq_false h3
          go_enter Tryz.func280, Tryz.ntmps280
          go_wp2_with fail
          go_ret
          exact ⟨⟨_, rfl⟩, kc⟩
      · have n0 : decide (0 ≤ b) = true := decide_eq_true h0
        have n1 : decide (b ≤ 1048576) = true := decide_eq_true h1
        have n2 : decide (1 ≤ n) = false := decide_eq_false h2
        go_enter Tryz.func280, Tryz.ntmps280
        go_wp2_with fail
        go_ret
        exact ⟨⟨_, rfl⟩, kc⟩
    · have n0 : decide (0 ≤ b) = true := decide_eq_true h0
      have n1 : decide (b ≤ 1048576) = false := decide_eq_false h1
      go_enter Tryz.func280, Tryz.ntmps280
      go_wp2_with fail
      go_ret
      exact ⟨⟨_, rfl⟩, kc⟩
  · have n0 : decide (0 ≤ b) = false := decide_eq_false h0
    go_enter Tryz.func280, Tryz.ntmps280
    go_wp2_with fail
    go_ret
    exact ⟨⟨_, rfl⟩, kc⟩
set_option maxRecDepth 100000 in
theorem inot_any (w : World) (b n : Int) : Calls Tryz.prog 279 #[.agg #[.int .i64 b, .int .i64 n]] w fun e w' => isB e ∧ Chg [] w w' := by
  have kc : Chg [] w (w.alloc (.cells #[.int .i64 b, .int .i64 n] 79)) := Chg.alloc w _
  go_enter Tryz.func279, Tryz.ntmps279
  go_wp2_with fail
  refine (imay_any _ b n).mono ?_
  rintro e w2 ⟨⟨r, rfl⟩, k2⟩
  cases r
  all_goals
    go_wp2_with fail
    go_ret
    exact ⟨⟨_, rfl⟩, kc.then k2⟩
theorem SpQ.get {w : World} {pa : Option Addr} {l : List (Int × Int)} (h : SpQ w pa l) (j : Nat) (hj : j < l.length) : ∃ b o, pa = some ⟨b, o, none⟩ ∧ w.cell? ⟨b, o + j * 2, none⟩ = some (.int .i64 l[j].1) ∧ w.cell? ⟨b, o + j * 2 + 1, none⟩ = some (.int .i64 l[j].2) := by
  rcases h with ⟨rfl, _⟩ | ⟨b, o, rfl, h⟩
  · simp at hj
  · have hc : ∀ (l : List (Int × Int)) (j : Nat) (hj : j < l.length), (spCells l)[j * 2]? = some (.int .i64 l[j].1) ∧ (spCells l)[j * 2 + 1]? = some (.int .i64 l[j].2) := by
      intro l
      induction l with
      | nil => intro j hj; simp at hj
      | cons p l ih =>
        intro j hj
        cases j with
        | zero => exact ⟨rfl, rfl⟩
        | succ j =>
          have := ih j (by simpa using hj)
          have e1 : (j + 1) * 2 = j * 2 + 1 + 1 := by omega
          have e2 : spCells (p :: l) = .int .i64 p.1 :: .int .i64 p.2 :: spCells l := rfl
          rw [e1, e2]
          simpa using this
    obtain ⟨h1, h2⟩ := hc l j hj
    exact ⟨b, o, rfl, h _ _ h1, by have := h _ _ h2; rwa [← Nat.add_assoc] at this⟩
set_option maxRecDepth 100000 in
set_option maxHeartbeats 1000000 in
theorem idxspan_any (w : World) {pa : Option Addr} {m c : Nat} {l : List (Int × Int)} (hl : l.length = m) (hm : m ≤ 1000) (hs : SpQ w pa l) : Calls Tryz.prog 298 #[.slice pa m c, .func (.func 279) #[] #[]] w fun e w' => ∃ i : Int, e = .returned (.int .i64 i) ∧ Chg [] w w' ∧ -1 ≤ i ∧ i ≤ 1000 := by
  have HS := Lib.hid hs
  clear hs
  go_enter Tryz.func298, Tryz.ntmps298
  go_wp2_with fail
  go_loopw [8] (fun i wr => ∃ j : Nat, j ≤ m ∧ i = .int .i64 j ∧ Chg [] w wr) (fun i _ => m - (intOf i).toNat)
  case atStart => exact ⟨0, by omega, rfl, Chg.refl _ _⟩
  case round =>
    obtain ⟨j, hj, rfl, kr⟩ := hrel
    by_cases hlt : j < m
    · obtain ⟨b, o, rfl, c0, c1⟩ := (HS.out.keep kr).get j (by omega)
      generalize (l[j]'(by omega)).1 = x at *
      generalize (l[j]'(by omega)).2 = y at *
      go_wp2_with fail
      refine (inot_any wr x y).mono ?_
      rintro e w2 ⟨⟨r, rfl⟩, k2⟩
      have k3 := kr.then k2
      cases r
      · go_wp2_with fail
        go_roundw
        case rel => exact ⟨j + 1, by omega, by simp, k3⟩
        case measure => simp [intOf]; omega
      · go_wp2_with fail
        go_ret
        exact ⟨_, rfl, k3, by omega, by omega⟩
    · obtain rfl : j = m := by omega
      go_wp2_with fail
      go_ret
      exact ⟨_, rfl, kr, by omega, by omega⟩
set_option maxRecDepth 100000 in
theorem contspan_any (w : World) {pa : Option Addr} {m c : Nat} {l : List (Int × Int)} (hl : l.length = m) (hm : m ≤ 1000) (hs : SpQ w pa l) : Calls Tryz.prog 278 #[.slice pa m c, .func (.func 279) #[] #[]] w fun e w' => isB e ∧ Chg [] w w' := by
  have HI := Lib.hid (idxspan_any w (c := c) hl hm hs)
  clear hs
  go_enter Tryz.func278, Tryz.ntmps278
  go_wp2_with fail
  refine HI.out.mono ?_
  rintro e w2 ⟨i, rfl, k, -, -⟩
  go_wp2_with fail
  go_ret
  exact ⟨⟨_, rfl⟩, k⟩
set_option maxRecDepth 100000 in
theorem iall_any (w : World) {pa : Option Addr} {m c : Nat} {l : List (Int × Int)} (hl : l.length = m) (hm : m ≤ 1000) (hs : SpQ w pa l) : Calls Tryz.prog 245 #[.slice pa m c] w fun e w' => isB e ∧ Chg [] w w' := by
  have HI := Lib.hid (contspan_any w (c := c) hl hm hs)
  clear hs
  go_enter Tryz.func245, Tryz.ntmps245
  go_wp2_with fail
  refine HI.out.mono ?_
  rintro e w2 ⟨⟨r, rfl⟩, k⟩
  go_wp2_with fail
  go_ret
  exact ⟨⟨_, rfl⟩, k⟩
/-- a set of at most n spans, of which it may hold 'most'; its row lies behind base. -/
def SpW (w : World) (base V : Nat) (most : Nat) (n : Nat) : Prop := ∃ v l, w.heap[V]? = some (.cells #[.int .i64 most, v] 305 (0, 0)) ∧ l.length ≤ n ∧ w.ownsRow base 79 2 v l.length (spCells l)
theorem SpV.to {w : World} {base V n : Nat} (h : SpV w base V n) : SpW w base V 64 n := h
theorem SpW.keep {w w' : World} {S : List Nat} {base V most n : Nat} (h : SpW w base V most n) (hc : Chg S w w') (hS : Av w S [79, 305]) : SpW w' base V most n := by
  obtain ⟨v, l, h1, h2, h3⟩ := h
  exact ⟨v, l, hc.heap h1 (hS.ne h1 (by simp)), h2, ownsRow_av h3 hc (fun x hx cs t fr hh ht => hS x hx cs t fr hh (by simp at ht; simp [ht]))⟩
theorem SpW.keep0 {w w' : World} {base V most n : Nat} (h : SpW w base V most n) (hc : Chg [] w w') : SpW w' base V most n := h.keep hc (Av.nil _ _)
set_option maxRecDepth 100000 in
set_option maxHeartbeats 2000000 in
theorem iadd_any (w : World) {base V most n m c0' : Nat} {pe : Option Addr} {l2 : List (Int × Int)} (h : SpW w base V most n) (hn : n + m ≤ 16) (hbase : base ≤ w.heap.size) (hl2 : l2.length = m) (hE : SpQ w pe l2) :
    Calls Tryz.prog 216 #[.pointer (some ⟨V, 0, none⟩), .slice pe m c0'] w fun e w' => ∃ r : Int, e = .returned (.int .i64 r) ∧ Chg [V] w w' ∧ SpW w' base V most (n + m) := by
  obtain ⟨v, l, hV, hl, ho⟩ := h
  obtain ⟨pa, c, rfl, hq⟩ := own_spq ho
  have v1 : w.cell? ⟨V, 1, none⟩ = some (.slice pa l.length c) := cell_is hV 1 rfl
  go_enter Tryz.func216, Tryz.ntmps216
  go_wp2_with fail
  refine (iall_any w (c := c0') hl2 (by omega) hE).mono ?_
  rintro e w1 ⟨⟨r, rfl⟩, k1⟩
  have v2 := k1.cell v1 (by simp)
  have hq2 := hq.keep k1
  have hE2 := hE.keep k1
  have hV2 := k1.heap hV (by simp)
  have ho2 := ownsRow_chg ho k1
  have H0 := Lib.hid (show SpW w1 base V most (n + m) from ⟨_, l, hV2, by omega, ho2⟩)
  clear v1 hV hq hE ho
  have k1V : Chg [V] w w1 := k1.mono (fun x hx _ => by cases hx)
  cases r
  · go_wp2_with fail
    go_ret
    exact ⟨_, rfl, k1V, H0.out⟩
  · by_cases hm : m = 0
    · subst hm
      go_wp2_with fail
      go_ret
      exact ⟨_, rfl, k1V, H0.out⟩
    · have hmi : ¬ (m : Int) = 0 := by omega
      go_wp2_with fail
      have kx : Chg [] w1 (w1.alloc (.cells #[.slice pa l.length c, .slice pe m c0'] 175)) := Chg.alloc _ _
      have x0 : (w1.alloc (.cells #[.slice pa l.length c, .slice pe m c0'] 175)).cell? ⟨w1.heap.size, 0, none⟩ = some (.slice pa l.length c) := cell_is (heap_new w1 _) 0 rfl
      have x1 : (w1.alloc (.cells #[.slice pa l.length c, .slice pe m c0'] 175)).cell? ⟨w1.heap.size, 1, none⟩ = some (.slice pe m c0') := cell_is (heap_new w1 _) 1 rfl
      refine (concat_two _ x0 x1 rfl hl2 (by omega) (by omega) (by omega) (hq2.keep kx) (hE2.keep kx)).mono ?_
      rintro e w2 ⟨v', rfl, k2, o2⟩
      obtain ⟨g, cap, cur, rfl, hgb, hgc, hgs, _, hgl⟩ := own_sp o2 (by omega)
      have k3 := (k1.then kx).then k2
      go_wp2_with fail
      refine (joined_any w2 hgl (by omega) (by omega) hgs).mono ?_
      rintro e w3 ⟨v3, k, l3, rfl, k4, hk, hl3, o3⟩
      have k5 := k3.then k4
      have hV3 : w3.heap[V]? = some (.cells #[.int .i64 most, .slice pa l.length c] 305 (0, 0)) := ((kx.then k2).then k4).heap hV2 (by simp)
      have c0 : w3.cell? ⟨V, 0, none⟩ = some (.int .i64 most) := cell_is hV3 0 rfl
      have c1 : w3.cell? ⟨V, 1, none⟩ = some (.slice pa l.length c) := cell_is hV3 1 rfl
      have f1 := unfrozen hV3 1
      obtain ⟨pq, cq, hv3, hcq⟩ := own_form o3
      subst hv3
      have hsz := k3.size
      have HF := Lib.hid (show SpW (w3.setCell ⟨V, 1, none⟩ (.slice pq k cq)) base V most (n + m) from by
        refine ⟨_, l3, heap_set hV3 1 _ rfl, by omega, ?_⟩
        have kk := Chg.set w3 V 1 (.slice pq k cq)
        refine ownsRow_base (base := w2.heap.size) ?_ (by omega)
        rw [hl3]
        refine ownsRow_chg o3 kk ?_
        intro x hx
        have := heap_lt hV2
        have := (kx.then k2).size
        simp at hx
        omega)
      have HN := Lib.hid (show SpW w3 base V most (n + m) from ⟨_, l, hV3, by omega, ownsRow_chg ho2 ((kx.then k2).then k4)⟩)
      have k5V : Chg [V] w w3 := k5.mono (fun x hx _ => by cases hx)
      clear k3 k4 o3 hV3 hV2 x0 x1 hgs hgc o2 hq2 hE2 ho2 H0
      by_cases hcmp : (k : Int) > most
      · go_wp2_with fail
        go_ret
        exact ⟨_, rfl, k5V, HN.out⟩
      · go_wp2_with fail
        go_ret
        exact ⟨_, rfl, k5V.then (Chg.set w3 V 1 _), HF.out⟩
end Go.Proofs.YtelakcjbknbehaaGreat
