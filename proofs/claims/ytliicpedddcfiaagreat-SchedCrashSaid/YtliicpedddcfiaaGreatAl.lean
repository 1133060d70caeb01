/- Lemmas and walks: Tools: a row that lies somewhere in its block, as a cut slice does; append onto it. No program in this text. Walks: ops wait: Add of a schedule, onto a row that was cut. Printed by mkKk.py. Walks: the first client begins and writes, step by step. Walks: the first client asks for a commit; the batch is flushed; the client is told. The second client: Ql's walks at its cells. Printed by mkC2.py. The second client: Qm's walks at its cells. Printed by mkC2.py. The second client: Qn's walks at its cells. Printed by mkC2.py. The second client: Qo's walks at its cells. Printed by mkC2.py. The second client: Qp's walks at its cells. Printed by mkC2.py. The second client: Qq's walks at its cells. Printed by mkC2.py. The second client: Qr's walks at its cells. Printed by mkC2.py. Walks: the second client's ops and its begin; what stands beside the store. -/
import Derived.Deep.AppendLies
import Derived.Deep.AppendSrc
import Derived.Test.YtliicpedddcfiaaGreatAi
import Derived.Test.YtliicpedddcfiaaGreatAj
namespace Go.Proofs.YtliicpedddcfiaaGreat
open Go.RowKit Go.Lib

/-- v is a row of n elements, somewhere in its block. -/
def RowO (w : World) (base e size : Nat) (v : Value) (n : Nat) (xs : List Value) : Prop :=
  xs.length = n * size ∧ ((v = .slice none 0 0 ∧ n = 0) ∨
    ∃ g o cap cur, v = .slice (some ⟨g, o, none⟩) n cap ∧ base ≤ g ∧ w.heap[g]? = some (.cells cur e (0, 0)) ∧ n ≤ cap ∧ cap ≤ maxLen ∧ o + cap * size ≤ cur.size ∧ ∀ j, j < n * size → cur[o + j]? = xs[j]?)
theorem RowO.of_own {w : World} {base e size n : Nat} {v : Value} {xs : List Value} (h : w.ownsRow base e size v n xs) : RowO w base e size v n xs := by
  refine ⟨h.1, ?_⟩
  rcases h.2 with h | ⟨g, cap, cur, h1, h2, h3, h4, h5, h6, h7⟩
  · exact Or.inl h
  · refine Or.inr ⟨g, 0, cap, cur, h1, h2, h3, h4, h5, by omega, fun j hj => ?_⟩
    rw [← h7, List.getElem?_take_of_lt hj, Array.getElem?_toList, Nat.zero_add]
theorem RowO.form {w : World} {base e size n : Nat} {v : Value} {xs : List Value} (h : RowO w base e size v n xs) : ∃ pa c, v = .slice pa n c ∧ n ≤ c := by
  rcases h.2 with ⟨rfl, rfl⟩ | ⟨g, o, cap, cur, rfl, _, _, hc, _⟩
  · exact ⟨none, 0, rfl, Nat.le_refl _⟩
  · exact ⟨_, cap, rfl, hc⟩
theorem RowO.elem {w : World} {base e size n g : Nat} {v : Value} {xs : List Value} (h : RowO w base e size v n xs) (hg : v.ownBlock = some g) : base ≤ g ∧ ∃ cur, w.heap[g]? = some (.cells cur e (0, 0)) := by
  rcases h.2 with ⟨rfl, _⟩ | ⟨g', o, cap, cur, rfl, hb, hh, _⟩
  · cases hg
  · obtain rfl : g' = g := by injection hg
    exact ⟨hb, _, hh⟩
theorem RowO.chgB {w w' : World} {S : List Nat} {base e size n : Nat} {v : Value} {xs : List Value} (h : RowO w base e size v n xs) (hc : Chg S w w') (hS : ∀ g, v.ownBlock = some g → g ∉ S) : RowO w' base e size v n xs := by
  refine ⟨h.1, ?_⟩
  rcases h.2 with ⟨e, h0⟩ | ⟨g, o, cap, cur, e, hA, hg, h3⟩
  · exact Or.inl ⟨e, h0⟩
  · exact Or.inr ⟨g, o, cap, cur, e, hA, hc.heap hg (hS g (by rw [e]; rfl)), h3⟩
theorem RowO.keep0 {w w' : World} {base e size n : Nat} {v : Value} {xs : List Value} (h : RowO w base e size v n xs) (hc : Chg [] w w') : RowO w' base e size v n xs := h.chgB hc (fun _ _ hm => by cases hm)
theorem RowO.not {w : World} {base e size n K t : Nat} {v : Value} {xs : List Value} {cs : Array Value} (h : RowO w base e size v n xs) (hK : w.heap[K]? = some (.cells cs t (0, 0))) (ht : t ≠ e) : K ∉ v.ownBlock.toList := by
  intro hx
  obtain ⟨-, cur, hc⟩ := h.elem (show v.ownBlock = some K by simpa using hx)
  rw [hc] at hK
  cases hK
  exact ht rfl
theorem RowO.av {w : World} {base e size n : Nat} {v : Value} {xs : List Value} (h : RowO w base e size v n xs) : ∀ x ∈ v.ownBlock.toList, base ≤ x ∧ ∀ cs t fr, w.heap[x]? = some (.cells cs t fr) → t = e := fun x hx => by
  obtain ⟨h1, cur, hc⟩ := h.elem (show v.ownBlock = some x by simpa using hx)
  refine ⟨h1, fun cs t fr hh => ?_⟩
  rw [hc] at hh
  cases hh
  rfl
/-- the first cells of a row, where its elements lie. -/
theorem RowO.at_ {w : World} {base e size n : Nat} {v : Value} {xs : List Value} (h : RowO w base e size v n xs) (hn : 0 < n) : ∃ g o c, v = .slice (some ⟨g, o, none⟩) n c ∧ n ≤ c ∧ base ≤ g ∧ (∃ cur, w.heap[g]? = some (.cells cur e (0, 0))) ∧ ∀ j u, xs[j]? = some u → w.cell? ⟨g, o + j, none⟩ = some u := by
  rcases h.2 with ⟨rfl, h0⟩ | ⟨g, o, cap, cur, rfl, hb, hh, hc, _, _, hx⟩
  · omega
  · refine ⟨g, o, cap, rfl, hc, hb, ⟨cur, hh⟩, fun j u hu => cell_is hh _ ?_⟩
    have hj := (List.getElem?_eq_some_iff.1 hu).1
    rw [h.1] at hj
    rw [hx j hj]; exact hu
theorem setCells_block (w : World) (g e : Nat) (vs : List Value) : ∀ (o : Nat) (cur : Array Value), w.heap[g]? = some (.cells cur e (0, 0)) → ∃ cur', (w.setCells g o vs).heap[g]? = some (.cells cur' e (0, 0)) ∧ cur'.size = cur.size := by
  induction vs generalizing w with
  | nil => intro o cur h; exact ⟨cur, h, rfl⟩
  | cons v vs ih =>
    intro o cur h
    obtain ⟨cur', h1, h2⟩ := ih (w.setCell ⟨g, o, none⟩ v) (o + 1) _ (heap_set h o v rfl)
    exact ⟨cur', h1, by rw [h2, Array.size_setIfInBounds]⟩
theorem setCells_chg (w : World) (g : Nat) (vs : List Value) : ∀ o : Nat, Chg [g] w (w.setCells g o vs) := by
  induction vs generalizing w with
  | nil => intro o; exact Chg.refl _ _
  | cons v vs ih => intro o; exact (Chg.set w g o v).then (ih _ (o + 1))
/-- append onto such a row. -/
theorem run_append_rowO {P : Program} (w : World) (t ty : TypeId) (base : Nat) (e : TypeId) (i : TypeInfo) (z : Value) (size bytes : Nat) (ht : P.underlying t = some (.slice e)) (hi : P.info? e = some i) (hz : i.zero = some z)
    (hsize : i.size = size) (hby : i.bytes = bytes) (hzs : z.cells.size = size) (hsz : 0 < size)
    (v : Value) (n : Nat) (xs : List Value) (hown : RowO w base e size v n xs)
    (ad : Addr) (m c : Nat) (news : List Value) (hl : news.length = m * size) (hnews : ∀ j u, news[j]? = some u → w.cell? (ad.add j) = some u) (h1 : ∀ u ∈ news, u.oneCell' = true)
    (hm : 0 < m) (h63 : n + m ≤ maxLen) (hbytes : (n + m) * bytes ≤ 140737488355328) (hbase : base ≤ w.heap.size) :
    ∃ g o cap w', (Builtin.append_ #[t, t] ty #[v, .slice (some ad) m c]).run P w = .ok (.slice (some ⟨g, o, none⟩) (n + m) cap) w' ∧
      RowO w' base e size (.slice (some ⟨g, o, none⟩) (n + m) cap) (n + m) (xs ++ news) ∧ Chg v.ownBlock.toList w w' ∧ (v.ownBlock = some g ∨ g = w.heap.size) := by
  rcases hown.2 with ⟨rfl, rfl⟩ | ⟨g, o, cap, cur, rfl, hb, hg, hc, hmax, hcs, hx⟩
  · have hx : xs = [] := List.eq_nil_of_length_eq_zero (by simpa using hown.1)
    subst hx
    obtain ⟨g, cap, w', hr, h2, h3, h4, -⟩ := run_append_lies (P := P) w t ty base e i z size bytes ht hi hz hsize hby hzs hsz (.slice none 0 0) 0 [] (World.ownsRow_nil _ _ _ _) ad m c news hl hnews h1 hm h63 hbytes hbase _ rfl
    exact ⟨g, 0, cap, w', hr, RowO.of_own h2, Chg.of_grownO h3, h4⟩
  · subst hsize
    subst hby
    have hs : Src P i.size t (.slice (some ad) m c) m news w := Src.ofSlice w ht ad m c news hl hnews h1
    have hlen : (xs ++ news).length = (n + m) * i.size := by rw [List.length_append, hown.1, hl, Nat.add_mul]
    by_cases hroom : n + m ≤ cap
    · have hmul : (n + m) * i.size ≤ cap * i.size := Nat.mul_le_mul_right _ hroom
      rw [Nat.add_mul, ← hl] at hmul
      have hcell : ∀ j, j < cur.size → (w.cell? ⟨g, j, none⟩).isSome = true := fun j hj => by rw [cell_is hg j (Array.getElem?_eq_getElem hj)]; rfl
      have hsome : ∀ j, j < news.length → (w.cell? ⟨g, o + n * i.size + j, none⟩).isSome = true := fun j hj => hcell _ (by omega)
      have hr := run_append_room_src (P := P) w t t ty e i ht hi g o n cap (.slice (some ad) m c) m news hs hroom hsome (fun j _ => unfrozen hg _)
      obtain ⟨cur', hg', hsz'⟩ := setCells_block w g e news (o + n * i.size) cur hg
      refine ⟨g, o, cap, _, hr, ⟨hlen, Or.inr ⟨g, o, cap, cur', rfl, hb, hg', hroom, hmax, by omega, fun j hj => ?_⟩⟩, setCells_chg w g news _, Or.inl rfl⟩
      rw [← cell_of_row _ g (o + j) cur' e (0, 0) hg']
      rw [Nat.add_mul, ← hl] at hj
      by_cases hjn : j < n * i.size
      · rw [World.cell?_setCells_out g news _ w ⟨g, o + j, none⟩ (fun _ _ => Or.inl (by show o + j < o + n * i.size; omega)), cell_of_row _ g (o + j) cur e (0, 0) hg, hx j hjn, List.getElem?_append_left (by rw [hown.1]; exact hjn)]
      · have hj' : j - n * i.size < news.length := by omega
        have := World.cell?_setCells_in g news (o + n * i.size) w hsome (j - n * i.size) hj'
        rw [show o + n * i.size + (j - n * i.size) = o + j by omega] at this
        rw [this, List.getElem?_append_right (by rw [hown.1]; omega), hown.1, List.getElem?_eq_getElem hj']
    · have hold : (Builtin.firstCells i.size n (.slice (some ⟨g, o, none⟩) n cap)).run P w.drew = .ok xs.toArray w.drew := by
        refine run_firstCells_some w.drew i.size n ⟨g, o, none⟩ n cap xs hown.1 (fun j u hu => ?_)
        rw [Addr.add_lit]
        have hj := (List.getElem?_eq_some_iff.1 hu).1
        rw [hown.1] at hj
        have : w.cell? ⟨g, o + j, none⟩ = some u := cell_is hg _ (by rw [hx j hj]; exact hu)
        exact this
      have hr := run_append_grow_src (P := P) w t t ty e i z ht hi hz (some ⟨g, o, none⟩) n cap xs hold (.slice (some ad) m c) m news hs (by omega) (by simp only [maxLen] at h63; omega) (growslice_fits (by omega) hbytes)
      have hge := grownCap_ge w (n + m) cap e
      have hcm := grownCap_le_maxLen w (n + m) cap e h63
      have hk : Chg (Value.slice (some ⟨g, o, none⟩) n cap).ownBlock.toList w (w.drew.alloc (.cells ((xs ++ news).toArray ++ Builtin.zeroCells z.cells (grownCap w (n + m) cap e - (n + m))) e)) := (Chg.refl _ w).drew.then (Chg.alloc _ _)
      have hnew : (w.drew.alloc (.cells ((xs ++ news).toArray ++ Builtin.zeroCells z.cells (grownCap w (n + m) cap e - (n + m))) e)).heap[w.heap.size]? = _ := heap_new w.drew _
      refine ⟨_, 0, _, _, hr, ⟨hlen, Or.inr ⟨w.heap.size, 0, _, _, rfl, hbase, hnew, hge, hcm, ?_, fun j hj => ?_⟩⟩, hk, Or.inr rfl⟩
      · rw [Array.size_append, List.size_toArray, hlen, size_zeroCells, hzs, ← Nat.add_mul, Nat.zero_add]
        exact Nat.mul_le_mul_right _ (by omega)
      · rw [Nat.zero_add, Array.getElem?_append_left (by rw [List.size_toArray, hlen]; exact hj), List.getElem?_toArray]
/-- the law as a step of a region that draws, for an op. -/
theorem step_append_opO {ops : Array Oper} {o : Oper} {a : Act} {w : World} {K : Act → World → Prop} {E : Prop} (hgd : o.guard = none) (s x : Operand)
    (ho : o.op = .call { callee := .builtin .append, args := #[s, x], argTypes := #[65, 65] }) (base b c n : Nat) (v u0 u1 u2 u3 u4 : Value) (xs : List Value) (hs : a.eval s = v) (hown : RowO w base 33 5 v n xs) (hbase : base ≤ w.heap.size) (hn : n ≤ 1000)
    (hx : a.eval x = .slice (some ⟨b, 0, none⟩) 1 c) (hb : w.heap[b]? = some (.cells #[u0, u1, u2, u3, u4] 33 (0, 0))) (h1 : u0.oneCell' = true ∧ u1.oneCell' = true ∧ u2.oneCell' = true ∧ u3.oneCell' = true ∧ u4.oneCell' = true)
    {Q : Exit → Act → World → Prop} (h : ∀ g o2 cap w', RowO w' base 33 5 (.slice (some ⟨g, o2, none⟩) (n + 1) cap) (n + 1) (xs ++ [u0, u1, u2, u3, u4]) → Chg v.ownBlock.toList w w' → (v.ownBlock = some g ∨ g = w.heap.size) → K (a.put o.dst (.slice (some ⟨g, o2, none⟩) (n + 1) cap)) w') :
    if Region.wanted o (yielded ops a.tmps) = true then Oper.wp Tryz.prog o a w K Q else E := by
  obtain ⟨i, hi0, hz, hz1, hz2⟩ := info_parts inf64
  have hw : Region.wanted o (yielded ops a.tmps) = true := by simp [Region.wanted, hgd]
  rw [if_pos hw]
  obtain ⟨g, o2, cap, w', hr, h2, h3, h4⟩ := run_append_rowO (P := Tryz.prog) w 65 o.type base 33 i _ 5 56 ty78 hi0 hz hz1 hz2 rfl (by decide) v n xs hown ⟨b, 0, none⟩ 1 c [u0, u1, u2, u3, u4] rfl (by
    intro j u hu
    rw [show (⟨b, 0, none⟩ : Addr).add j = ⟨b, 0 + j, none⟩ from by unfold Addr.add; split <;> simp_all, Nat.zero_add]
    exact cell_is hb j (by simpa using hu)) (by
    intro u hu
    simp at hu
    obtain ⟨h2, h3, h4, h5, h6⟩ := h1
    rcases hu with rfl | rfl | rfl | rfl | rfl <;> assumption) (by decide) (by unfold maxLen; omega) (by omega) hbase
  unfold Oper.wp execOp
  simp only [ho, resolve, invoke, builtin, Sem.run_bind, Sem.run_pure, Result.andThen_ok, List.map_toArray, List.map_cons, List.map_nil, hs, hx, hr]
  exact h g o2 cap w' h2 h3 h4
end Go.Proofs.YtliicpedddcfiaaGreat
namespace Go.Proofs.YtliicpedddcfiaaGreat
open Go.RowKit Go.Lib

/-- what Add leaves behind i ops. -/
structure AddO (w wr : World) (K o lo : Nat) (cs : Array Value) (v : Value) (ss : List OpS) (cs' : Array Value) (v' : Value) (xs' : List Value) : Prop where
  blk : SchB wr K cs'
  at_ : cs'[o]? = some v'
  rest : ∀ j, j ≠ o → cs'[j]? = cs[j]?
  own : RowO wr lo 33 5 v' ss.length xs'
  ops : OpsL wr lo ss xs'
  chg : Chg (K :: v.ownBlock.toList) w wr
  new : ∀ g, v'.ownBlock = some g → v.ownBlock = some g ∨ w.heap.size ≤ g
theorem AddO.step {w wr w5 w6 wa w7 : World} {K o lo j n g7 q7 c7 : Nat} {cs cs' : Array Value} {v : Value} {old ss : List OpS} {pv' : Option Addr} {cv' : Nat} {xs' u' : List Value} (hr : AddO w wr K o lo cs v (old ++ ss.take j) cs' (.slice pv' n cv') xs') (hlt : j < ss.length) (hnn : n = old.length + j) (hnl : (old ++ ss.take j).length = old.length + j)
    (hav : ∀ x ∈ K :: v.ownBlock.toList, x < w.heap.size → ∀ cs t fr, w.heap[x]? = some (.cells cs t fr) → t ≠ 37 ∧ t ≠ 5) (kB : Chg [] wr w5) (k6 : Chg [] w5.drew w6) (hu6 : OpV w6 w5.drew.heap.size ss[j] u') (kA : Chg [] w6 wa) (o7 : RowO w7 lo 33 5 (.slice (some ⟨g7, q7, none⟩) (n + 1) c7) (n + 1) (xs' ++ u')) (k7 : Chg (Value.slice pv' n cv').ownBlock.toList wa w7) (n7 : (Value.slice pv' n cv').ownBlock = some g7 ∨ g7 = wa.heap.size) (B7 : SchB w7 K cs') (hlo : lo ≤ w.heap.size) :
    AddO w (w7.setCell ⟨K, o, none⟩ (.slice (some ⟨g7, q7, none⟩) (n + 1) c7)) K o lo cs v (old ++ ss.take (j + 1)) (cs'.setIfInBounds o (.slice (some ⟨g7, q7, none⟩) (n + 1) c7)) (.slice (some ⟨g7, q7, none⟩) (n + 1) c7) (xs' ++ u') := by
  have e1 : old ++ ss.take (j + 1) = (old ++ ss.take j) ++ [ss[j]] := by rw [List.take_succ_eq_append_getElem hlt, List.append_assoc]
  have kS : Chg [K] w7 (w7.setCell ⟨K, o, none⟩ (.slice (some ⟨g7, q7, none⟩) (n + 1) c7)) := Chg.set _ _ _ _
  have hsz := hr.chg.size
  have kra : Chg [] wr wa := (kB.drew.then k6).then kA
  have hown6 : RowO wa lo 33 5 (.slice pv' n cv') n xs' := by
    have := hr.own
    rw [hnl, ← hnn] at this
    exact RowO.keep0 this kra
  have hrow : ∀ x ∈ (Value.slice pv' n cv').ownBlock.toList, x < wa.heap.size → ∀ cs t fr, wa.heap[x]? = some (.cells cs t fr) → t ≠ 37 ∧ t ≠ 5 := by
    intro x hx _ cs2 t fr hh
    obtain ⟨-, cur, hc⟩ := RowO.elem hown6 (show (Value.slice pv' n cv').ownBlock = some x by simpa using hx)
    rw [hc] at hh
    cases hh
    exact ⟨by decide, by decide⟩
  have hKr : ∀ x ∈ [K], x < w7.heap.size → ∀ cs t fr, w7.heap[x]? = some (.cells cs t fr) → t ≠ 37 ∧ t ≠ 5 := by
    intro x hx _ cs2 t fr hh
    rw [List.mem_singleton] at hx
    subst hx
    rw [show w7.heap[x]? = _ from B7] at hh
    cases hh
    exact ⟨by decide, by decide⟩
  have hot : o < cs'.size := (Array.getElem?_eq_some_iff.1 hr.at_).1
  have hra : wr.heap.size ≤ w5.drew.heap.size := kB.size
  refine ⟨heap_set B7 o _ rfl, by rw [Array.getElem?_setIfInBounds_self_of_lt hot], fun i hi => by rw [Array.getElem?_setIfInBounds_ne (Ne.symm hi)]; exact hr.rest i hi, ?_, ?_, ?_, ?_⟩
  · rw [e1, List.length_append, hnl, ← hnn]
    refine RowO.chgB o7 kS (fun g hg => ?_)
    intro hm
    rw [List.mem_singleton] at hm
    subst hm
    obtain ⟨-, cur, hc⟩ := RowO.elem o7 hg
    rw [show w7.heap[g]? = _ from B7] at hc
    cases hc
  · rw [e1]
    refine OpsL.snoc ((((hr.ops.keepT kra (fun x hx => by cases hx)).keepT k7 hrow).keepT kS hKr)) ((((hu6.low (by omega)).keepT kA (fun x hx => by cases hx)).keepT k7 hrow).keepT kS hKr)
  · refine ((hr.chg.trans kra (fun x hx => by cases hx)).trans k7 (fun x hx hlt => ?_)).trans kS (fun x hx _ => by simp at hx; simp [hx])
    rcases hr.new x (by simpa using hx) with h | h
    · simp [h]
    · omega
  · intro g hg
    cases hg
    rcases n7 with h | h
    · exact hr.new _ h
    · right
      show w.heap.size ≤ g7
      have := kra.size
      omega
set_option maxRecDepth 100000 in
set_option maxHeartbeats 4000000 in
theorem sadd_o (w : World) {K P E c lo : Nat} {a : Int} {cs : Array Value} {v : Value} {old ss : List OpS} {xs : List Value} (h : SchB w K cs) (h1 : cs[1]? = some (.pointer (some ⟨P, 0, none⟩))) (ha : 1 ≤ a ∧ a ≤ 8) (hv : cs[cli a]? = some v)
    (ho : RowO w lo 33 5 v old.length xs) (hold : OpsL w lo old xs) (hlo : lo ≤ w.heap.size) (hE : OpsG w E ss) (hne : v.ownBlock ≠ some E) (hn : old.length + ss.length ≤ 200) :
    Calls Tryz.prog 8 #[.pointer (some ⟨K, 0, none⟩), .int .i64 a, .slice (some ⟨E, 0, none⟩) ss.length c] w fun e w' => e = .returned (.int .i64 0) ∧ ∃ cs' v' xs', AddO w w' K (cli a) lo cs v (old ++ ss) cs' v' xs' := by
  have HC := Lib.hid (client_in w h h1 ha)
  obtain ⟨pv, cv, rfl, hcv⟩ := RowO.form ho
  have c0 : w.cell? ⟨K, cli a, none⟩ = some (.slice pv old.length cv) := cell_is h _ hv
  have hR : AddO w w K (cli a) lo cs (.slice pv old.length cv) (old ++ ss.take 0) cs (.slice pv old.length cv) xs := ⟨h, hv, fun _ _ => rfl, by simpa using ho, by simpa using hold, Chg.refl _ _, fun g hg => Or.inl hg⟩
  have n1 : decide ((200 : Int) - (old.length : Int) < (ss.length : Int)) = false := decide_eq_false (by omega)
  have hw1 : IntKind.i64.wrap ((200 : Int) - (old.length : Int)) = (200 : Int) - (old.length : Int) := by rw [IntKind.wrap_i64]; omega
  have hav : ∀ x ∈ K :: (Value.slice pv old.length cv).ownBlock.toList, x < w.heap.size → ∀ cs t fr, w.heap[x]? = some (.cells cs t fr) → t ≠ 37 ∧ t ≠ 5 := by
    intro x hx _ cs2 t fr hh
    rcases List.mem_cons.1 hx with rfl | hx
    · rw [show w.heap[x]? = _ from h] at hh
      cases hh
      exact ⟨by decide, by decide⟩
    · obtain ⟨-, cur, hc⟩ := RowO.elem ho (show (Value.slice pv old.length cv).ownBlock = some x by simpa using hx)
      rw [hc] at hh
      cases hh
      exact ⟨by decide, by decide⟩
  have hEn : E ∉ K :: (Value.slice pv old.length cv).ownBlock.toList := by
    intro hx
    rcases List.mem_cons.1 hx with e | hx
    · obtain ⟨⟨eb, h3⟩, -⟩ := hE
      exact heap_ne h3 h (by simp) e
    · exact hne (by simpa using hx)
  have HAv := Lib.hid (And.intro hav hEn)
  have HE := Lib.hid hE
  have HR := Lib.hid hR
  generalize cli a = o at *
  clear h h1 hv ho hold hE ha hR hav hEn
  go_enter Tryz.func8, Tryz.ntmps8
  go_wp2_with fail
  refine HC.out.mono ?_
  rintro e w1 ⟨rfl, rfl⟩
  go_wp2_with fail
  go_loopw [9, 28] (fun _ i wr => ∃ j : Nat, i = .int .i64 (j : Int) ∧ j ≤ ss.length ∧ ∃ cs' v' xs', AddO w wr K o lo cs (.slice pv old.length cv) (old ++ ss.take j) cs' v' xs') (fun _ i _ => ss.length - (intOf i).toNat)
  case atStart => exact ⟨0, rfl, Nat.zero_le _, _, _, _, HR.out⟩
  case round =>
    obtain ⟨j, rfl, hj, cs', v', xs', hr⟩ := hrel
    by_cases hlt : j < ss.length
    · have n2 : decide ((j : Int) < (ss.length : Int)) = true := decide_eq_true (by omega)
      have hEr : OpsG wr E ss := HE.out.keepT hr.chg HAv.out.2 HAv.out.1
      obtain ⟨u, hu, hcell⟩ := hEr.2 j ss[j] (List.getElem?_eq_getElem hlt)
      have hu0 := hu
      obtain ⟨pu, rfl, hu2⟩ := hu
      obtain ⟨pp, pn, pc, rfl⟩ : ∃ pp pn pc, pu = .slice pp pn pc := by
        rcases hu2 with ⟨-, rfl⟩ | ⟨_, _, _, _, _, _, _, -, rfl, -⟩ <;> exact ⟨_, _, _, rfl⟩
      have a0 : wr.cell? ⟨E, j * 5, none⟩ = some (.int .i64 ss[j].k) := by rw [Nat.mul_comm]; exact hcell 0 _ rfl
      have a1 : wr.cell? ⟨E, j * 5 + 1, none⟩ = some (.int .i64 ss[j].h) := by rw [Nat.mul_comm]; exact hcell 1 _ rfl
      have a2 : wr.cell? ⟨E, j * 5 + 2, none⟩ = some (.int .i64 ss[j].a) := by rw [Nat.mul_comm]; exact hcell 2 _ rfl
      have a3 : wr.cell? ⟨E, j * 5 + 3, none⟩ = some (.int .i64 ss[j].l) := by rw [Nat.mul_comm]; exact hcell 3 _ rfl
      have a4 : wr.cell? ⟨E, j * 5 + 4, none⟩ = some (.slice pp pn pc) := by rw [Nat.mul_comm]; exact hcell 4 _ rfl
      have yB := heap_new wr (.cells #[.int .i64 0, .int .i64 0, .int .i64 0, .int .i64 0, .slice none 0 0] 33)
      have kB : Chg [] wr (wr.alloc (.cells #[.int .i64 0, .int .i64 0, .int .i64 0, .int .i64 0, .slice none 0 0] 33)) := Chg.alloc wr _
      have d0 := cell_is yB 0 rfl
      have d1 := cell_is yB 1 rfl
      have d2 := cell_is yB 2 rfl
      have d3 := cell_is yB 3 rfl
      have d4 := cell_is yB 4 rfl
      have e0 := unfrozen yB 0
      have e1 := unfrozen yB 1
      have e2 := unfrozen yB 2
      have e3 := unfrozen yB 3
      have e4 := unfrozen yB 4
      clear hu2 hcell hEr
      go_wp2_with fail
      clear d0 d1 d2 d3 d4 e0 e1 e2 e3 e4 yB kB
      have yB := heap_new wr (.cells #[.int .i64 ss[j].k, .int .i64 ss[j].h, .int .i64 ss[j].a, .int .i64 ss[j].l, .slice pp pn pc] 33)
      have kB : Chg [] wr (wr.alloc (.cells #[.int .i64 ss[j].k, .int .i64 ss[j].h, .int .i64 ss[j].a, .int .i64 ss[j].l, .slice pp pn pc] 33)) := Chg.alloc wr _
      generalize wr.alloc (.cells #[.int .i64 ss[j].k, .int .i64 ss[j].h, .int .i64 ss[j].a, .int .i64 ss[j].l, .slice pp pn pc] 33) = w5 at *
      generalize hBz : wr.heap.size = B at *
      have kd : Chg [] w5 w5.drew := (Chg.refl [] w5).drew
      have hnl : (old ++ ss.take j).length = old.length + j := by simp; omega
      have hown := hr.own
      rw [hnl] at hown
      obtain ⟨n, hnn⟩ : ∃ n, n = old.length + j := ⟨_, rfl⟩
      rw [← hnn] at hown
      obtain ⟨pv', cv', rfl, hcv'⟩ := RowO.form hown
      have hn200 : n ≤ 199 := by omega
      have HN := Lib.hid (And.intro hnn hnl)
      clear hnn hnl
      have s0 : w5.cell? ⟨K, o, none⟩ = some (.slice pv' n cv') := kB.cell (cell_is hr.blk o hr.at_) (by simp)
      have s0d : w5.drew.cell? ⟨K, o, none⟩ = some (.slice pv' n cv') := s0
      have b0 : w5.cell? ⟨B, 0, none⟩ = some (.int .i64 ss[j].k) := cell_is yB 0 rfl
      have b1 : w5.cell? ⟨B, 1, none⟩ = some (.int .i64 ss[j].h) := cell_is yB 1 rfl
      have b2 : w5.cell? ⟨B, 2, none⟩ = some (.int .i64 ss[j].a) := cell_is yB 2 rfl
      have b3 : w5.cell? ⟨B, 3, none⟩ = some (.int .i64 ss[j].l) := cell_is yB 3 rfl
      have b4 : w5.cell? ⟨B, 4, none⟩ = some (.slice pp pn pc) := cell_is yB 4 rfl
      have b0d : w5.drew.cell? ⟨B, 0, none⟩ = some (.int .i64 ss[j].k) := b0
      have b1d : w5.drew.cell? ⟨B, 1, none⟩ = some (.int .i64 ss[j].h) := b1
      have b2d : w5.drew.cell? ⟨B, 2, none⟩ = some (.int .i64 ss[j].a) := b2
      have b3d : w5.drew.cell? ⟨B, 3, none⟩ = some (.int .i64 ss[j].l) := b3
      have b4d : w5.drew.cell? ⟨B, 4, none⟩ = some (.slice pp pn pc) := b4
      have HW := Lib.hid (own_any w5.drew (hu0.keepT (kB.drew) (fun x hx => by cases hx)))
      go_region_law
        (first
          | (go_simp; go_at_call 20; refine HW.out.mono ?_; rintro e w6 ⟨u', rfl, k6, hu6⟩; obtain ⟨qp, qn, qc, rfl⟩ := hu6.form; have s6 := k6.cell s0d (by simp); have kA : Chg [] w6 (w6.alloc (.cells #[.int .i64 ss[j].k, .int .i64 ss[j].h, .int .i64 ss[j].a, .int .i64 ss[j].l, .slice qp qn qc] 33)) := Chg.alloc w6 _; have y6 := heap_new w6 (.cells #[.int .i64 ss[j].k, .int .i64 ss[j].h, .int .i64 ss[j].a, .int .i64 ss[j].l, .slice qp qn qc] 33); have s7 := kA.cell s6 (by simp); have hb7 : lo ≤ (w6.alloc (.cells #[.int .i64 ss[j].k, .int .i64 ss[j].h, .int .i64 ss[j].a, .int .i64 ss[j].l, .slice qp qn qc] 33)).heap.size := (by have := ((hr.chg.size)); have := ((kB.drew.then k6).then kA).size; omega))
          | (refine step_append_opO rfl (.tmp 36) (.tmp 39) rfl lo w6.heap.size 1 n (.slice pv' n cv') _ _ _ _ _ xs' rfl (RowO.keep0 hown ((kB.drew.then k6).then kA)) hb7 (by omega) rfl y6 ⟨rfl, rfl, rfl, rfl, rfl⟩ ?_; intro g7 q7 c7 w7 o7 k7 n7; have B7 : SchB w7 K cs' := k7.heap (kA.heap (k6.heap (kB.drew.heap hr.blk (by simp)) (by simp)) (by simp)) (RowO.not (RowO.keep0 hown ((kB.drew.then k6).then kA)) (kA.heap (k6.heap (kB.drew.heap hr.blk (by simp)) (by simp)) (by simp)) (by decide)); have s8 := cell_is B7 o hr.at_; have f8 := unfrozen B7 o))
      all_goals
        have hF := AddO.step hr hlt HN.out.1 HN.out.2 (HAv.out.1) kB k6 hu6 kA o7 k7 n7 B7 hlo
        have HF := Lib.hid hF
        have n5 : IntKind.i64.wrap ((j : Int) + 1) = ((j + 1 : Nat) : Int) := by rw [IntKind.wrap_i64]; push_cast; omega
        clear hF o7 k7 n7 B7 s8 f8 kA k6 hu6 y6 s6 s7 hb7 b0 b1 b2 b3 b4 b0d b1d b2d b3d b4d s0 s0d yB
        go_wp2_with fail
        go_roundw
        case rel => exact ⟨j + 1, rfl, hlt, _, _, _, HF.out⟩
        case measure => simp [intOf]; omega
    · have n2 : decide ((j : Int) < (ss.length : Int)) = false := decide_eq_false (by omega)
      have hje : j = ss.length := by omega
      subst hje
      rw [List.take_length] at hr
      have HF := Lib.hid hr
      clear hr
      go_wp2_with fail
      go_ret
      exact ⟨rfl, _, _, _, HF.out⟩
end Go.Proofs.YtliicpedddcfiaaGreat
namespace Go.Proofs.YtliicpedddcfiaaGreat
open Go.RowKit Go.Lib

/-- the law's places: the start, its world, the schedule, the ops. -/
structure Pl25 where
  w0 : World
  lw : Nat
  C : Nat
  K : Nat
  R : Nat
  g : Nat
  E : Nat
  D : Nat
  cE : Nat
  cD : Nat
  r : List UInt8
  d : Ids
  ops : Int
/-- a schedule whose first client has a transaction that is open. -/
def PO (x : Pl25) (o av : Value) (q : Bool) (fr ev : Int) (k : Nat) (cs : Array Value) (w : World) : Prop :=
  ∃ T base W rw Q V Bb bv al qf L, cs = sch x.d.N x.d.P o bv av q al ev ∧ Beg1 w x.lw Bb bv 1 fr 0 ∧ Opn w x.lw x.d x.ops T base W rw Q V qf L ∧ L.length = k ∧ Bas x.w0 x.lw x.C x.K x.R x.g x.E x.D x.cE x.cD x.r w
theorem PO.cl (x : Pl25) (o av : Value) (q : Bool) (fr ev : Int) (k : Nat) (cs : Array Value) : Cl x.lw (PO x o av q fr ev k cs) := ⟨fun a b S h hc ht hl => by
  obtain ⟨T, base, W, rw, Q, V, Bb, bv, al, qf, L, h1, h2, h3, h4, h5⟩ := h
  refine ⟨T, base, W, rw, Q, V, Bb, bv, al, qf, L, h1, h2.keep hc (fun y hy _ cs t fr hh => ?_), h3.keep hc ht (by decide), h4, h5.tp hc ht (by decide) hl⟩
  obtain ⟨cs2, t2, e1, e2⟩ := ht y hy
  rw [e1] at hh
  cases hh
  simp at e2
  rcases e2 with rfl | rfl <;> exact ⟨by decide, by decide⟩⟩
/-- a stage: the schedule's cells, the answers' row. -/
def Stg (x : Pl25) (o av : Value) (q : Bool) (fr ev : Int) (k na : Nat) (w : World) : Prop := ∃ cs xs, PO x o av q fr ev k cs w ∧ SchB w x.K cs ∧ w.ownsRow x.lw 39 5 av na xs
theorem chgK {w : World} {K : Nat} {cs : Array Value} (hB : SchB w K cs) : Tp w [K] [72] := fun y hy => by
  rw [List.mem_singleton] at hy
  subst hy
  exact ⟨_, _, hB, by simp⟩
theorem nil66 (w : World) (lw : Nat) : w.ownsRow lw 39 5 (.slice none 0 0) 0 [] := World.ownsRow_nil _ _ _ _
set_option maxRecDepth 100000 in
theorem st1 (x : Pl25) (w : World) {c : Nat} (hS : Sto w x.lw x.d (s00 x.lw) (g00 x.lw x.ops)) (hB : SchB w x.K (sch x.d.N x.d.P (.slice (some ⟨x.g, 0, none⟩) 3 c) (.slice none 0 0) (.slice none 0 0) false (.slice none 0 0) 0)) (hb : Bas x.w0 x.lw x.C x.K x.R x.g x.E x.D x.cE x.cD x.r w) (hKl : x.lw ≤ x.K) (hlw : x.lw ≤ w.heap.size) (hc : 3 ≤ c) :
    Calls Tryz.prog 10 #[.pointer (some ⟨x.K, 0, none⟩), .int .i64 1] w fun e w' => ∃ v av, e = .returned (.tuple #[v, .int .i64 0]) ∧ Stg x (.slice (some ⟨x.g, 5, none⟩) 2 (c - 1)) av false 1 1 0 1 w' := by
  obtain ⟨cur, hr, q0, q1, q2, q3, q4, -⟩ := hb.ops.row
  have hgK : x.g ≠ x.K := heap_ne hr hB (by simp)
  refine (step_told w (P := PO x (.slice (some ⟨x.g, 0, none⟩) 3 c) (.slice none 0 0) false 1 1 0) (q := false) (av := .slice none 0 0) (na := 0) (xa := []) (m := 2) (x0 := 1) (x1 := 0) (x2 := 0) (x3 := 0) hlw hKl (fun cs => PO.cl x _ _ _ _ _ _ cs) hB rfl rfl rfl ⟨by decide, by decide⟩ hc (cell_is hr 0 q0) (cell_is hr 1 q1) (cell_is hr 2 q2) (cell_is hr 3 q3) (cell_is hr 4 q4) hgK ?_ ?_ (nil66 _ _) (by decide)).mono ?_
  · intro wx kx hBx
    have tK := chgK hB
    have hSx := hS.keepA kx (tK.av (by decide)) (tK.map hS.mx.ver.m) (tK.map hS.mx.book.2) (tK.map hS.mx.map)
    have hbx := hb.tp kx tK (by decide) (fun y hy => by rw [List.mem_singleton] at hy; omega)
    have hlx : x.lw ≤ wx.heap.size := Nat.le_trans hlw kx.size
    refine do_begin wx hlx (fun cs => PO.cl x _ _ _ _ _ _ cs) (fun wy ky => ?_)
    have hSy := hSx.keep ky
    refine (cbegin_ok wy (K := x.K) (o := .slice (some ⟨x.g, 0, none⟩) 3 c) (bv := .slice none 0 0) (av := .slice none 0 0) (al := .slice none 0 0) (q := false) (ev := 1) (nb := 0) (na := 0) (xb := []) (xa := []) hSy (ky.heap hBx (by simp)) (World.ownsRow_nil _ _ _ _) (World.ownsRow_nil _ _ _ _) (fun y hy => by cases hy) (by decide) (by decide) rfl (show (0 : Int) ≤ 0 by decide) (show (0 : Int) ≤ 1099511627776 by decide) (show (0 : Int) ≤ 0 by decide) (show (0 : Int) ≤ 1000000 by decide) hKl (Nat.le_trans hlx ky.size)).mono ?_
    rintro e w' ⟨rfl, T, W, rw, Q, V, base, Bb, bv, al, hLo, hT, hbase, hBl, hB', ob, oa, hBb, hSu, hlt⟩
    refine ⟨rfl, _, ⟨T, base, W, rw, Q, V, Bb, bv, al, _, [], rfl, ⟨ob, hBb, hBl⟩, ⟨hSu, hlt, by have := ky.size; omega, by have := ky.size; omega⟩, rfl, (hbx.keep ky (fun y hy => by cases hy)).lo hLo⟩, hB', fun y cs hy => hLo.heap hy (by decide)⟩
  · rintro cs2 w2 ⟨T, base, W, rw, Q, V, Bb, bv, al, qf, L, rfl, -⟩
    exact ⟨rfl, rfl, rfl⟩
  · rintro e w' ⟨rfl, av', cs2, hP, hB', ho⟩
    obtain ⟨T, base, W, rw, Q, V, Bb, bv, al, qf, L, rfl, h2⟩ := hP
    have hcut : cutV x.g 0 2 c = .slice (some ⟨x.g, 5, none⟩) 2 (c - 1) := by unfold cutV; rw [if_neg (by omega)]
    rw [hcut] at hB'
    exact ⟨_, av', rfl, _, _, ⟨T, base, W, rw, Q, V, Bb, bv, al, qf, L, rfl, h2⟩, hB', ho⟩
theorem Tp.k66 {w : World} {S : List Nat} (h : Tp w S [72]) : Tp w S [72, 39] := fun y hy => by
  obtain ⟨cs, t, h1, h2⟩ := h y hy
  exact ⟨cs, t, h1, by simp at h2; simp [h2]⟩
set_option maxRecDepth 100000 in
theorem st2 (x : Pl25) (w : World) {c na : Nat} {av : Value} (h : Stg x (.slice (some ⟨x.g, 5, none⟩) 2 c) av false 1 1 0 na w) (hKl : x.lw ≤ x.K) (hlw : x.lw ≤ w.heap.size) (hc : 2 ≤ c) (hna : na ≤ 900) :
    Calls Tryz.prog 10 #[.pointer (some ⟨x.K, 0, none⟩), .int .i64 1] w fun e w' => ∃ v av, e = .returned (.tuple #[v, .int .i64 0]) ∧ Stg x (.slice (some ⟨x.g, 10, none⟩) 1 (c - 1)) av false 1 2 1 (na + 1) w' := by
  obtain ⟨cs, xs, hP, hB, ho⟩ := h
  have hPw := hP
  obtain ⟨T, base, W, rw, Q, V, Bb, bv, al, qf, L, rfl, -, -, -, hb⟩ := hPw
  obtain ⟨cur, hr, -, -, -, -, -, q0, q1, q2, q3, q4, -⟩ := hb.ops.row
  have hgK : x.g ≠ x.K := heap_ne hr hB (by simp)
  refine (step_told w (P := PO x (.slice (some ⟨x.g, 5, none⟩) 2 c) av false 1 2 1) (q := false) (av := av) (na := na) (m := 1) (x0 := 3) (x1 := 0) (x2 := 0) (x3 := 0) hlw hKl (fun cs => PO.cl x _ _ _ _ _ _ cs) hB rfl rfl rfl ⟨by decide, by decide⟩ hc (cell_is hr 5 q0) (cell_is hr 6 q1) (cell_is hr 7 q2) (cell_is hr 8 q3) (cell_is hr 9 q4) hgK ?_ ?_ ho hna).mono ?_
  · intro wx kx hBx
    have hx := (PO.cl x _ _ _ _ _ _ _).keep w wx _ hP kx (chgK hB).k66 (fun y hy => by rw [List.mem_singleton] at hy; omega)
    obtain ⟨T, base, W, rw, Q, V, Bb, bv, al, qf, L, hcs, hbg, hop, hL, hbx⟩ := hx
    rw [hcs] at hBx
    have hlx : x.lw ≤ wx.heap.size := Nat.le_trans hlw kx.size
    obtain ⟨gb, cb, rfl, g0⟩ := hbg.at_
    refine do_call wx (kind := 3) (h := 1) (nb := 1) (Or.inl rfl) hlx (fun cs => PO.cl x _ _ _ _ _ _ cs) (cell_is hBx 3 rfl) (by decide) g0 (cell_is hbg.2.1 0 rfl) (by decide) (fun wy ky => ?_)
    have hf : Fr base (dT x.d T W rw Q V) (begP (s00 x.lw)) (StoF x.lw (dT x.d T W rw Q V) (begS (s00 x.lw) T) (g00 x.lw x.ops)) := fr_sto hop.2.1 rfl rfl rfl rfl rfl
    obtain ⟨ce, hE, e0, e1⟩ := hbx.ops.put
    have hby := hbx.keep ky (fun y hy => by cases hy)
    refine (ccall_write wy (K := x.K) (Bb := Bb) (b := 1) (d := dT x.d T W rw Q V) (p := begP (s00 x.lw)) (ky.heap hBx (by simp)) rfl (ky.heap hbg.2.1 (by simp)) rfl hf (hop.1.keep hf ky) (ky.cell (cell_is hE 0 e0) (by simp)) (ky.cell (cell_is hE 1 e1) (by simp)) hby.ops.bs hby.ops.len (by decide) (by decide) (by omega)).mono ?_
    rintro e w' ⟨rfl, hO, v, hSu⟩
    have hLL : L = [] := List.length_eq_zero_iff.1 hL
    subst hLL
    refine ⟨rfl, _, ⟨T, base, W, rw, Q, V, Bb, _, al, _, _, rfl, ?_, ⟨hSu, hop.2⟩, rfl, hby.lo (Lo.of_ow hO hop.2.2.2)⟩, hO.heap (ky.heap hBx (by simp)) ⟨by decide, by decide, by decide⟩, fun y cs hy => hO.heap hy ⟨by decide, by decide, by decide⟩⟩
    obtain ⟨U, hU1, hU2⟩ := hO
    refine (hbg.keep ky (fun y hy => by cases hy)).keep hU1 (fun y hy _ cs t fr hh => ?_)
    rcases (hU2 y hy).2 cs t fr hh with rfl | rfl | rfl <;> exact ⟨by decide, by decide⟩
  · rintro cs2 w2 ⟨T, base, W, rw, Q, V, Bb, bv, al, qf, L, rfl, -⟩
    exact ⟨rfl, rfl, rfl⟩
  · rintro e w' ⟨rfl, av', cs2, hP, hB', ho⟩
    obtain ⟨T, base, W, rw, Q, V, Bb, bv, al, qf, L, rfl, h2⟩ := hP
    have hcut : cutV x.g 5 1 c = .slice (some ⟨x.g, 10, none⟩) 1 (c - 1) := by unfold cutV; rw [if_neg (by omega)]
    rw [hcut] at hB'
    exact ⟨_, av', rfl, _, _, ⟨T, base, W, rw, Q, V, Bb, bv, al, qf, L, rfl, h2⟩, hB', ho⟩
end Go.Proofs.YtliicpedddcfiaaGreat
namespace Go.Proofs.YtliicpedddcfiaaGreat
open Go.RowKit Go.Lib

/-- a schedule whose first client's transaction waits. -/
def PW (x : Pl25) (o av : Value) (q : Bool) (fr ev : Int) (cs : Array Value) (w : World) : Prop :=
  ∃ T W rw Q V Bb bv al qf L gq cq, cs = sch x.d.N x.d.P o bv av q al ev ∧ Beg1 w x.lw Bb bv 1 fr 0 ∧ Sto w x.lw (dT x.d T W rw Q V) (comS (begS (s00 x.lw) T) gq cq) (g00 x.lw x.ops) ∧ Wtx w (dT x.d T W rw Q V) (comS (begS (s00 x.lw) T) gq cq) gq cq 1 1 0 0 L qf ∧ x.lw ≤ T ∧ L.length = 1 ∧ Bas x.w0 x.lw x.C x.K x.R x.g x.E x.D x.cE x.cD x.r w
theorem beg_ne {a : World} {S : List Nat} {ts : List Nat} (ht : Tp a S ts) (hts : ∀ t ∈ ts, t ≠ 83 ∧ t ≠ 85) : ∀ y ∈ S, y < a.heap.size → ∀ cs t fr, a.heap[y]? = some (.cells cs t fr) → t ≠ 83 ∧ t ≠ 85 := fun y hy _ cs t fr hh => by
  obtain ⟨cs2, t2, e1, e2⟩ := ht y hy
  rw [e1] at hh
  cases hh
  exact hts _ e2
theorem Sto.tp149 {w w' : World} {S : List Nat} {lw : Nat} {d : Ids} {s : Gs} {g : Gd} (h : Sto w lw d s g) (hc : Chg S w w') (tp : Tp w S [72, 39]) : Sto w' lw d s g :=
  h.keepA hc (tp.av (by decide)) (tp.map h.mx.ver.m) (tp.map h.mx.book.2) (tp.map h.mx.map)
theorem PW.cl (x : Pl25) (o av : Value) (q : Bool) (fr ev : Int) (cs : Array Value) : Cl x.lw (PW x o av q fr ev cs) := ⟨fun a b S h hc ht hl => by
  obtain ⟨T, W, rw, Q, V, Bb, bv, al, qf, L, gq, cq, h1, h2, h3, h4, h5, h6, h7⟩ := h
  exact ⟨T, W, rw, Q, V, Bb, bv, al, qf, L, gq, cq, h1, h2.keep hc (beg_ne ht (by decide)), h3.tp149 hc ht, h4.keepA hc (ht.av (by decide)) (ht.map h4.buf.2), h5, h6, h7.tp hc ht (by decide) hl⟩⟩
def StgW (x : Pl25) (o av : Value) (q : Bool) (fr ev : Int) (na : Nat) (w : World) : Prop := ∃ cs xs, PW x o av q fr ev cs w ∧ SchB w x.K cs ∧ w.ownsRow x.lw 39 5 av na xs
set_option maxRecDepth 100000 in
theorem st3 (x : Pl25) (w : World) {c na : Nat} {av : Value} (h : Stg x (.slice (some ⟨x.g, 10, none⟩) 1 c) av false 1 2 1 na w) (hKl : x.lw ≤ x.K) (hlw : x.lw ≤ w.heap.size) (hc : 1 ≤ c) :
    Calls Tryz.prog 10 #[.pointer (some ⟨x.K, 0, none⟩), .int .i64 1] w fun e w' => e = .returned (.tuple #[.agg #[.int .i64 0, .int .i64 0, .int .i64 0, .int .i64 0, .slice none 0 0], .int .i64 16]) ∧ StgW x (.slice (some ⟨x.g, 10, none⟩) 1 c) av true 1 3 na w' := by
  obtain ⟨cs, xs, hP, hB, ho⟩ := h
  have hPw := hP
  obtain ⟨T, base, W, rw, Q, V, Bb, bv, al, qf, L, rfl, -, -, -, hb⟩ := hPw
  obtain ⟨cur, hr, -, -, -, -, -, -, -, -, -, -, q0, q1, q2, q3, q4⟩ := hb.ops.row
  have hgK : x.g ≠ x.K := heap_ne hr hB (by simp)
  refine (step_wait w (P := PW x (.slice (some ⟨x.g, 10, none⟩) 1 c) av false 1 3) (q := false) (m := 0) (x0 := 0) (x1 := 0) (x2 := 0) (x3 := 0) hlw hKl (fun cs => PW.cl x _ _ _ _ _ cs) hB rfl rfl rfl ⟨by decide, by decide⟩ hc (cell_is hr 10 q0) (cell_is hr 11 q1) (cell_is hr 12 q2) (cell_is hr 13 q3) (cell_is hr 14 q4) hgK ?_ ?_).mono ?_
  · intro wx kx hBx
    have hx := (PO.cl x _ _ _ _ _ _ _).keep w wx _ hP kx (chgK hB).k66 (fun y hy => by rw [List.mem_singleton] at hy; omega)
    obtain ⟨T, base, W, rw, Q, V, Bb, bv, al, qf, L, hcs, hbg, hop, hL, hbx⟩ := hx
    rw [hcs] at hBx
    have hlx : x.lw ≤ wx.heap.size := Nat.le_trans hlw kx.size
    obtain ⟨gb, cb, rfl, g0⟩ := hbg.at_
    refine do_call wx (kind := 4) (h := 1) (nb := 1) (Or.inr rfl) hlx (fun cs => PW.cl x _ _ _ _ _ cs) (cell_is hBx 3 rfl) (by decide) g0 (cell_is hbg.2.1 0 rfl) (by decide) (fun wy ky => ?_)
    refine ccall_c wy (Nat.le_trans hlx ky.size) (fun cs => PW.cl x _ _ _ _ _ cs) (fun wz kz => ?_)
    have kyz := ky.then kz
    have hf : Fr base (dT x.d T W rw Q V) (begP (s00 x.lw)) (StoF x.lw (dT x.d T W rw Q V) (begS (s00 x.lw) T) (g00 x.lw x.ops)) := fr_sto hop.2.1 rfl rfl rfl rfl rfl
    have hbz := hbx.keep kyz (fun y hy => by cases hy)
    have hBz := kyz.heap hBx (by simp)
    have hbgz := hbg.keep kyz (fun y hy => by cases hy)
    refine (commit_ask wz (k := 1) (n := 0) (K := x.K) (Bb := Bb) (d := dT x.d T W rw Q V) (p := begP (s00 x.lw)) hBz rfl rfl hbgz.2.1 rfl hf (hop.1.keep hf kyz) rfl (Nat.le_trans hlx kyz.size) hop.2.2.1 (fun wv kv => scommit_sto wv (loq := x.lw) (n := 0) (k := 1) hf (hop.1.keep hf (kyz.then kv)) rfl (World.ownsRow_nil _ _ _ _) (Nat.le_trans hlx (kyz.then kv).size) (Nat.le_refl _) rfl ⟨fun p hp => (by cases hp), fun b y hy => (by cases hy)⟩ rfl (show (0 : Int) < 1099511627776 by decide) (show (0 : Int) ≤ 0 by decide) (by omega) (by omega) (by decide) rfl rfl hop.2.2.1)).mono ?_
    rintro e w' ⟨rfl, gq, cq, hS', hW', hcs'⟩
    have hLo := Lo.of_cs hcs'
    obtain ⟨U, hU1, hU2⟩ := hcs'
    refine ⟨rfl, _, ⟨T, W, rw, Q, V, Bb, _, al, _, L, gq, cq, rfl, ?_, hS', hW', hop.2.2.1, hL, hbz.lo hLo⟩, hU1.heap hBz (fun hm => ?_), fun y cs hy => hLo.heap hy (by decide)⟩
    · refine hbgz.keep hU1 (fun y hy hl cs t fr hh => ?_)
      exact (by decide : ∀ u ∈ ([105, 184, 212, 237, 247, 93, 97, 34, 3, 240, 159] : List Nat), u ≠ 83 ∧ u ≠ 85) t ((hU2 y hy hl).2 cs t fr hh)
    · exact (by decide : (72 : Nat) ∉ ([105, 184, 212, 237, 247, 93, 97, 34, 3, 240, 159] : List Nat)) ((hU2 x.K hm (heap_lt hBz)).2 _ _ _ hBz)
  · rintro cs2 w2 ⟨T, W, rw, Q, V, Bb, bv, al, qf, L, gq, cq, rfl, -⟩
    rfl
  · rintro e w' ⟨rfl, cs2, hP, hB', h66⟩
    obtain ⟨T, W, rw, Q, V, Bb, bv, al, qf, L, gq, cq, rfl, h2⟩ := hP
    exact ⟨rfl, _, xs, ⟨T, W, rw, Q, V, Bb, bv, al, qf, L, gq, cq, rfl, h2⟩, hB', own_k66 ho h66⟩
end Go.Proofs.YtliicpedddcfiaaGreat
namespace Go.Proofs.YtliicpedddcfiaaGreat.C2
open Go.RowKit Go.Lib

set_option maxRecDepth 100000 in
set_option maxHeartbeats 4000000 in
theorem commit_ask (w : World) {K Bb lw base n k : Nat} {d : Ids} {s : Gs} {g : Gd} {p : Par} {q : Int → List UInt8} {L : List (Int × Value)} {cs bc : Array Value} {oh : Int} (hB : SchB w K cs) (h1 : cs[1]? = some (.pointer (some ⟨d.P, 0, none⟩))) (h5 : cs[9]? = some (.bool false))
    (hb : w.heap[Bb]? = some (.cells bc 85 (0, 0))) (hbc : bc[0]? = some (.int .i64 p.h)) (hf : Fr base d p (StoF lw d s g)) (h : Su w base d p (StoF lw d s g) q L n) (htab : getL s.Lr p.h = some (.pointer (some ⟨d.T, 0, none⟩))) (hlw : lw ≤ w.heap.size) (_hTl : lw ≤ d.T)
    (hC : ∀ wx, Chg [] w wx → Calls Tryz.prog 131 #[.pointer (some ⟨d.P, 0, none⟩), .int .i64 p.h] wx fun e w' => e = .returned (.int .i64 0) ∧ ComR wx w' lw d s g p L q k) :
    Calls Tryz.prog 92 #[.pointer (some ⟨K, 0, none⟩), .pointer (some ⟨K, 6, none⟩), .pointer (some ⟨Bb, 0, none⟩), .agg #[.int .i64 4, .int .i64 0, .int .i64 oh, .int .i64 0, .slice none 0 0]] w fun e w' =>
      e = .returned (.tuple #[.agg #[.int .i64 0, .int .i64 0, .int .i64 0, .int .i64 0, .slice none 0 0], .bool false]) ∧ CAsk w w' lw d s g p L q k := by
  have kk : Chg [] w ((w.alloc (.cells #[.int .i64 4, .int .i64 0, .int .i64 oh, .int .i64 0, .slice none 0 0] 39)).alloc (.cells #[.int .i64 0, .int .i64 0, .int .i64 0, .int .i64 0, .slice none 0 0] 39)) := (Chg.alloc w _).then_alloc _
  obtain ⟨y1, y2⟩ := heap_new2 w (.cells #[.int .i64 4, .int .i64 0, .int .i64 oh, .int .i64 0, .slice none 0 0] 39) (.cells #[.int .i64 0, .int .i64 0, .int .i64 0, .int .i64 0, .slice none 0 0] 39)
  generalize hw0 : (w.alloc (.cells #[.int .i64 4, .int .i64 0, .int .i64 oh, .int .i64 0, .slice none 0 0] 39)).alloc (.cells #[.int .i64 0, .int .i64 0, .int .i64 0, .int .i64 0, .slice none 0 0] 39) = w0 at *
  have hz1 := heap_lt y1
  generalize hz : w.heap.size = z at *
  have k1 : w0.cell? ⟨K, 1, none⟩ = some (.pointer (some ⟨d.P, 0, none⟩)) := kk.cell (cell_is hB 1 h1) (by simp)
  have k5 : w0.cell? ⟨K, 9, none⟩ = some (.bool false) := kk.cell (cell_is hB 9 h5) (by simp)
  have b0 : w0.cell? ⟨Bb, 0, none⟩ = some (.int .i64 p.h) := kk.cell (cell_is hb 0 hbc) (by simp)
  have h2 := h.keep hf kk
  have hS2 : Sto w0 lw d s g := h2.env
  have hN := hf.need w0 h2.env
  have HR1 := Lib.hid (result_ok w0.drew (P := d.P) (M := d.M) (X := d.X) hN.p5 hN.m0 hN.m2 hS2.mx.map htab (cell_is h2.tx 0 rfl) (cell_is h2.tx 1 rfl) (cell_is h2.tx 2 rfl))
  have y1d : w0.drew.heap[z]? = _ := y1
  have y2d : w0.drew.heap[z + 1]? = _ := y2
  have B0 : w0.drew.heap[K]? = _ := kk.heap hB (by simp)
  have b0d : w0.drew.heap[Bb]? = _ := kk.heap hb (by simp)
  have HX := Lib.hid (And.intro y1d (And.intro y2d (And.intro B0 (And.intro b0d (And.intro kk.drew (show w0.drew.heap.size = w0.heap.size from rfl))))))
  have HCo := Lib.hid hC
  have h1' := Lib.hid h1
  have h2' := Lib.hid hbc
  clear hB h1 h5 hb hbc hf h h2 hS2 hN hC y1 y2 y1d y2d B0 b0d kk
  go_enter Tryz.func92, Tryz.ntmps92
  go_wp2_with fail
  go_region_held3 (fun wx => wx.cell? ⟨K, 1, none⟩ = some (.pointer (some ⟨d.P, 0, none⟩)) ∧ wx.cell? ⟨Bb, 0, none⟩ = some (.int .i64 p.h))
    (first | (exact ⟨k1, b0⟩) | (exact ⟨k3.cell k1 (by simp), k3.cell b0 (by simp)⟩))
    (first | (go_at_call 130; refine HR1.out.mono ?_; rintro e w3 ⟨rfl, k3⟩))
  obtain ⟨y1d, y2d, B0, b0d, kd, hsd⟩ := HX.out
  have kk3 := kd.then k3
  have y13 := k3.heap y1d (by simp)
  have y23 := k3.heap y2d (by simp)
  have B3 := k3.heap B0 (by simp)
  have b3 := k3.heap b0d (by simp)
  have c1 : w3.cell? ⟨K, 1, none⟩ = some (.pointer (some ⟨d.P, 0, none⟩)) := cell_is B3 1 h1'.out
  have c2 : w3.cell? ⟨Bb, 0, none⟩ = some (.int .i64 p.h) := cell_is b3 0 h2'.out
  have HC3 := Lib.hid (HCo.out w3.drew kk3.drew)
  have y13d : w3.drew.heap[z]? = _ := y13
  have y23d : w3.drew.heap[z + 1]? = _ := y23
  have B3d : w3.drew.heap[K]? = _ := B3
  have b3d : w3.drew.heap[Bb]? = _ := b3
  have HX3 := Lib.hid (And.intro y13d (And.intro y23d (And.intro B3d (And.intro b3d kk3.drew))))
  clear y1d y2d B0 b0d kd kk3 y13 y23 B3 b3 y13d y23d B3d b3d k1 k5 b0 HX HR1 k3
  go_wp2_with fail
  go_still_tail 8, (by kernel_rfl)
  change wpList _ _ _ _ _ w3.drew
  generalize w3.drew = w4 at *
  go_wp2_with fail
  refine HC3.out.mono ?_
  rintro e w5 ⟨rfl, gq, cq, hS5, hW5, cs5⟩
  obtain ⟨y14, y24, B4, b4, kk4⟩ := HX3.out
  have y15 := cs5.heap y14 (by decide)
  have y25 := cs5.heap y24 (by decide)
  have B5 := cs5.heap B4 (by decide)
  have b5 := cs5.heap b4 (by decide)
  have q1 := cell_is y15 1 rfl
  have g1 := unfrozen y15 1
  have HS5 := Lib.hid (And.intro hS5 (And.intro hW5 ((Cs.of_chg (lw := lw) kk4).trans cs5)))
  clear hS5 hW5 cs5 kk4 y14 y24 B4 b4 HX3 HC3 c1 c2
  go_upto_region 4 with fail
  have v1 : (w5.setCell ⟨z, 1, none⟩ (.int .i64 0)).heap[z]? = some (.cells #[.int .i64 4, .int .i64 0, .int .i64 oh, .int .i64 0, .slice none 0 0] 39 (0, 0)) := heap_set y15 1 _ rfl
  have ks : Chg [z] w5 (w5.setCell ⟨z, 1, none⟩ (.int .i64 0)) := Chg.set _ _ _ _
  generalize w5.setCell ⟨z, 1, none⟩ (.int .i64 0) = w6 at *
  have tpz : Tp w5 [z] [39] := fun x hx => by
    rw [List.mem_singleton] at hx
    subst hx
    exact ⟨_, _, y15, by simp⟩
  obtain ⟨hS5, hW5, hL5⟩ := HS5.out
  have hS6 : Sto w6 lw d (comS s gq cq) g := hS5.keepA ks (tpz.av (by decide)) (tpz.map hS5.mx.ver.m) (tpz.map hS5.mx.book.2) (tpz.map hS5.mx.map)
  have hW6 := hW5.keepA ks (tpz.av (by decide)) (tpz.map hW5.buf.2)
  have hL6 : Cs lw w w6 := hL5.new_chg ks (fun x hx => by rw [List.mem_singleton] at hx; omega)
  have hzK : ∀ {x : Nat} {cs : Array Value} {t : TypeId}, w5.heap[x]? = some (.cells cs t (0, 0)) → t ≠ 39 → x ∉ [z] := fun hx ht hm => by
    rw [List.mem_singleton] at hm
    subst hm
    rw [y15] at hx
    cases hx
    exact ht rfl
  have B6 := ks.heap B5 (hzK B5 (by decide))
  have b6 := ks.heap b5 (hzK b5 (by decide))
  have y26 := ks.heap y25 (by intro hm; rw [List.mem_singleton] at hm; omega)
  have c0 := cell_is v1 1 rfl
  have c1 : w6.cell? ⟨K, 1, none⟩ = some (.pointer (some ⟨d.P, 0, none⟩)) := cell_is B6 1 h1'.out
  have c2 : w6.cell? ⟨Bb, 0, none⟩ = some (.int .i64 p.h) := cell_is b6 0 h2'.out
  have kd6 : Chg [] w6 w6.drew := (Chg.refl [] w6).drew
  have hS6d := hS6.keep kd6
  have HR2 := Lib.hid (result_ok w6.drew (P := d.P) (M := d.M) (X := d.X) (cell_is hS6d.store 5 rfl) (cell_is hS6d.mx.mgr 0 rfl) (cell_is hS6d.mx.mgr 2 rfl) hS6d.mx.map hW6.tab (cell_is (show w6.drew.heap[d.T]? = _ from hW6.tx) 0 rfl) (cell_is (show w6.drew.heap[d.T]? = _ from hW6.tx) 1 rfl) (cell_is (show w6.drew.heap[d.T]? = _ from hW6.tx) 2 rfl))
  have y26d : w6.drew.heap[z + 1]? = _ := y26
  have HX6 := Lib.hid (And.intro y26d (And.intro hS6d (And.intro (hW6.keep kd6) (hL6.trans (Cs.of_chg kd6)))))
  clear hS5 hW5 hL5 hS6 hW6 hL6 hzK B6 b6 y26 kd6 hS6d HS5 tpz ks v1 y15 y25 B5 b5 q1 g1 y26d
  go_wp2_with fail
  go_region_held3 (fun wx => wx.cell? ⟨K, 1, none⟩ = some (.pointer (some ⟨d.P, 0, none⟩)) ∧ wx.cell? ⟨Bb, 0, none⟩ = some (.int .i64 p.h))
    (first | (exact ⟨c1, c2⟩) | (exact ⟨k7.cell c1 (by simp), k7.cell c2 (by simp)⟩))
    (first | (go_at_call 130; refine HR2.out.mono ?_; rintro e w7 ⟨rfl, k7⟩))
  obtain ⟨y26, hS6, hW6, hL6⟩ := HX6.out
  have y27 := k7.heap y26 (by simp)
  have t0 := cell_is y27 0 rfl
  have t1 := cell_is y27 1 rfl
  have t2 := cell_is y27 2 rfl
  have t3 := cell_is y27 3 rfl
  have t4 := cell_is y27 4 rfl
  have f0 := unfrozen y27 0
  have f1 := unfrozen y27 1
  have f2 := unfrozen y27 2
  have f3 := unfrozen y27 3
  have f4 := unfrozen y27 4
  have HX7 := Lib.hid (And.intro (hS6.keep k7) (And.intro (hW6.keep k7) (hL6.trans (Cs.of_chg k7))))
  clear y26 hS6 hW6 hL6 c0 c1 c2 HX6 HR2 k7
  go_wp2_with fail
  obtain ⟨y11, k11⟩ := set5 (.int .i64 0) (.int .i64 0) (.int .i64 0) (.int .i64 0) (.slice none 0 0) y27
  generalize ((((w7.setCell ⟨z + 1, 0, none⟩ (.int .i64 0)).setCell ⟨z + 1, 1, none⟩ (.int .i64 0)).setCell ⟨z + 1, 2, none⟩ (.int .i64 0)).setCell ⟨z + 1, 3, none⟩ (.int .i64 0)).setCell ⟨z + 1, 4, none⟩ (.slice none 0 0) = w8 at *
  have r0 := cell_is y11 0 rfl
  have r1 := cell_is y11 1 rfl
  have r2 := cell_is y11 2 rfl
  have r3 := cell_is y11 3 rfl
  have r4 := cell_is y11 4 rfl
  obtain ⟨hS7, hW7, hL7⟩ := HX7.out
  have tp : Tp w7 [z + 1] [39] := fun x hx => by
    rw [List.mem_singleton] at hx
    subst hx
    exact ⟨_, _, y27, by simp⟩
  refine bodyPost_ret (v := .tuple #[.agg #[.int .i64 0, .int .i64 0, .int .i64 0, .int .i64 0, .slice none 0 0], .bool false]) (by simp [results, Tryz.results92, go_sem, r0, r1, r2, r3, r4]) rfl ?_
  exact ⟨rfl, gq, cq, hS7.keepA k11 (tp.av (by decide)) (tp.map hS7.mx.ver.m) (tp.map hS7.mx.book.2) (tp.map hS7.mx.map), hW7.keepA k11 (tp.av (by decide)) (tp.map hW7.buf.2), hL7.new_chg k11 (fun x hx => by rw [List.mem_singleton] at hx; omega)⟩
set_option maxRecDepth 100000 in
set_option maxHeartbeats 4000000 in
theorem commit_told (w : World) {K Bb lw : Nat} {d : Ids} {s : Gs} {g : Gd} {cs bc : Array Value} {oh h k ev x2 : Int} (hB : SchB w K cs) (h1 : cs[1]? = some (.pointer (some ⟨d.P, 0, none⟩))) (h5 : cs[9]? = some (.bool true)) (h35 : cs[35]? = some (.int .i64 ev))
    (hb : w.heap[Bb]? = some (.cells bc 85 (0, 0))) (hbc : bc[0]? = some (.int .i64 h)) (hb2 : bc[2]? = some (.int .i64 x2)) (hS : Sto w lw d s g) (htab : getL s.Lr h = some (.pointer (some ⟨d.T, 0, none⟩))) (t0 : w.cell? ⟨d.T, 0, none⟩ = some (.int .i64 3)) (t1 : w.cell? ⟨d.T, 1, none⟩ = some (.int .i64 k)) (t2 : w.cell? ⟨d.T, 2, none⟩ = some (.int .i64 0)) :
    Calls Tryz.prog 92 #[.pointer (some ⟨K, 0, none⟩), .pointer (some ⟨K, 6, none⟩), .pointer (some ⟨Bb, 0, none⟩), .agg #[.int .i64 4, .int .i64 0, .int .i64 oh, .int .i64 0, .slice none 0 0]] w fun e w' =>
      e = .returned (.tuple #[.agg #[.int .i64 4, .int .i64 0, .int .i64 oh, .int .i64 k, .slice none 0 0], .bool true]) ∧ CTold w w' lw Bb d s g bc ev := by
  have kk : Chg [] w ((w.alloc (.cells #[.int .i64 4, .int .i64 0, .int .i64 oh, .int .i64 0, .slice none 0 0] 39)).alloc (.cells #[.int .i64 0, .int .i64 0, .int .i64 0, .int .i64 0, .slice none 0 0] 39)) := (Chg.alloc w _).then_alloc _
  obtain ⟨y1, y2⟩ := heap_new2 w (.cells #[.int .i64 4, .int .i64 0, .int .i64 oh, .int .i64 0, .slice none 0 0] 39) (.cells #[.int .i64 0, .int .i64 0, .int .i64 0, .int .i64 0, .slice none 0 0] 39)
  generalize hw0 : (w.alloc (.cells #[.int .i64 4, .int .i64 0, .int .i64 oh, .int .i64 0, .slice none 0 0] 39)).alloc (.cells #[.int .i64 0, .int .i64 0, .int .i64 0, .int .i64 0, .slice none 0 0] 39) = w0 at *
  have hz1 := heap_lt y1
  generalize hz : w.heap.size = z at *
  have k1 : w0.cell? ⟨K, 1, none⟩ = some (.pointer (some ⟨d.P, 0, none⟩)) := kk.cell (cell_is hB 1 h1) (by simp)
  have k5 : w0.cell? ⟨K, 9, none⟩ = some (.bool true) := kk.cell (cell_is hB 9 h5) (by simp)
  have b0 : w0.cell? ⟨Bb, 0, none⟩ = some (.int .i64 h) := kk.cell (cell_is hb 0 hbc) (by simp)
  have kd := kk.drew
  have hSd := hS.keep kd
  have HR := Lib.hid (result_ok w0.drew (P := d.P) (M := d.M) (X := d.X) (cell_is hSd.store 5 rfl) (cell_is hSd.mx.mgr 0 rfl) (cell_is hSd.mx.mgr 2 rfl) hSd.mx.map htab (kd.cell t0 (by simp)) (kd.cell t1 (by simp)) (kd.cell t2 (by simp)))
  have y1d : w0.drew.heap[z]? = _ := y1
  have y2d : w0.drew.heap[z + 1]? = _ := y2
  have hKz : K < z ∧ Bb < z := by rw [← hz]; exact ⟨heap_lt hB, heap_lt hb⟩
  have hKB : K ≠ Bb := heap_ne hB hb (by simp)
  have HX := Lib.hid (And.intro y1d (And.intro y2d (And.intro (kd.heap hB (by simp)) (And.intro (kd.heap hb (by simp)) (And.intro kd hSd)))))
  have H1 := Lib.hid (And.intro h1 (And.intro h35 (And.intro hbc hb2)))
  clear hB h1 h5 h35 hb hbc hb2 hS t0 t1 t2 htab y1 y2 y1d y2d kk kd hSd
  go_enter Tryz.func92, Tryz.ntmps92
  go_wp2_with fail
  go_region_held3 (fun wx => wx.cell? ⟨K, 1, none⟩ = some (.pointer (some ⟨d.P, 0, none⟩)) ∧ wx.cell? ⟨Bb, 0, none⟩ = some (.int .i64 h))
    (first | (exact ⟨k1, b0⟩) | (exact ⟨k3.cell k1 (by simp), k3.cell b0 (by simp)⟩))
    (first | (go_at_call 130; refine HR.out.mono ?_; rintro e w3 ⟨rfl, k3⟩))
  obtain ⟨y1d, y2d, B0, b0d, kd, hSd⟩ := HX.out
  have y13 := k3.heap y1d (by simp)
  have y23 := k3.heap y2d (by simp)
  have B3 := k3.heap B0 (by simp)
  have b3 := k3.heap b0d (by simp)
  have q3 := cell_is y13 3 rfl
  have g3 := unfrozen y13 3
  have HY := Lib.hid (And.intro (hSd.keep k3) (kd.then k3))
  clear y1d y2d B0 b0d kd hSd HX HR k1 k5 b0 k3
  go_upto_region 16 with fail
  have v1 : (w3.setCell ⟨z, 3, none⟩ (.int .i64 k)).heap[z]? = some (.cells #[.int .i64 4, .int .i64 0, .int .i64 oh, .int .i64 k, .slice none 0 0] 39 (0, 0)) := heap_set y13 3 _ rfl
  have ks : Chg [z] w3 (w3.setCell ⟨z, 3, none⟩ (.int .i64 k)) := Chg.set _ _ _ _
  generalize w3.setCell ⟨z, 3, none⟩ (.int .i64 k) = w4 at *
  have y24 := ks.heap y23 (by simp)
  have B4 := ks.heap B3 (by simp; omega)
  have b4 := ks.heap b3 (by simp; omega)
  have c35 := cell_is B4 35 H1.out.2.1
  have c2 := cell_is b4 2 H1.out.2.2.2
  have f2 := unfrozen b4 2
  clear q3 g3
  go_upto_region 17 with fail
  have b5 : (w4.setCell ⟨Bb, 2, none⟩ (.int .i64 ev)).heap[Bb]? = some (.cells (bc.setIfInBounds 2 (.int .i64 ev)) 85 (0, 0)) := heap_set b4 2 _ rfl
  have k5 : Chg [Bb] w4 (w4.setCell ⟨Bb, 2, none⟩ (.int .i64 ev)) := Chg.set _ _ _ _
  generalize w4.setCell ⟨Bb, 2, none⟩ (.int .i64 ev) = w5 at *
  have v5 := k5.heap v1 (by simp; omega)
  have y25 := k5.heap y24 (by simp; omega)
  have d0 := cell_is v5 0 rfl
  have d1 := cell_is v5 1 rfl
  have d2 := cell_is v5 2 rfl
  have d3 := cell_is v5 3 rfl
  have d4 := cell_is v5 4 rfl
  have t0 := cell_is y25 0 rfl
  have t1 := cell_is y25 1 rfl
  have t2 := cell_is y25 2 rfl
  have t3 := cell_is y25 3 rfl
  have t4 := cell_is y25 4 rfl
  have e0 := unfrozen y25 0
  have e1 := unfrozen y25 1
  have e2 := unfrozen y25 2
  have e3 := unfrozen y25 3
  have e4 := unfrozen y25 4
  clear c35 c2 f2
  go_wp2_with fail
  obtain ⟨y11, k11⟩ := set5 (.int .i64 4) (.int .i64 0) (.int .i64 oh) (.int .i64 k) (.slice none 0 0) y25
  generalize ((((w5.setCell ⟨z + 1, 0, none⟩ (.int .i64 4)).setCell ⟨z + 1, 1, none⟩ (.int .i64 0)).setCell ⟨z + 1, 2, none⟩ (.int .i64 oh)).setCell ⟨z + 1, 3, none⟩ (.int .i64 k)).setCell ⟨z + 1, 4, none⟩ (.slice none 0 0) = w6 at *
  have r0 := cell_is y11 0 rfl
  have r1 := cell_is y11 1 rfl
  have r2 := cell_is y11 2 rfl
  have r3 := cell_is y11 3 rfl
  have r4 := cell_is y11 4 rfl
  obtain ⟨hS3, k3⟩ := HY.out
  have kf : Chg [Bb, z, z + 1] w3 w6 := ((ks.mono (fun x hx _ => by simp at hx; simp [hx])).then (k5.mono (fun x hx _ => by simp at hx; simp [hx]))).then (k11.mono (fun x hx _ => by simp at hx; simp [hx]))
  have tp : Tp w3 [Bb, z, z + 1] [85, 39] := fun x hx => by
    simp at hx
    rcases hx with rfl | rfl | rfl
    · exact ⟨_, _, b3, by simp⟩
    · exact ⟨_, _, y13, by simp⟩
    · exact ⟨_, _, y23, by simp⟩
  refine bodyPost_ret (v := .tuple #[.agg #[.int .i64 4, .int .i64 0, .int .i64 oh, .int .i64 k, .slice none 0 0], .bool true]) (by simp [results, Tryz.results92, go_sem, r0, r1, r2, r3, r4]) rfl ?_
  exact ⟨rfl, hS3.keepA kf (tp.av (by decide)) (tp.map hS3.mx.ver.m) (tp.map hS3.mx.book.2) (tp.map hS3.mx.map), (k3.mono (T := [Bb]) (fun x hx _ => by cases hx)).trans kf (fun x hx hlt => by simp at hx; simp; omega), k11.heap b5 (by simp; omega)⟩
end Go.Proofs.YtliicpedddcfiaaGreat.C2
namespace Go.Proofs.YtliicpedddcfiaaGreat.C2
open Go.RowKit Go.Lib

set_option maxRecDepth 100000 in
set_option maxHeartbeats 4000000 in
theorem ccall_c (w : World) {K Bb lw : Nat} {P : Array Value → World → Prop} {oh oa ol x0 x1 x2 x3 : Int} {pp : Option Addr} {pn pc : Nat} {fl : Bool} (hlw : lw ≤ w.heap.size) (hP : ∀ cs, Cl lw (P cs))
    (HC : ∀ wx, Chg [] w wx → Calls Tryz.prog 92 #[.pointer (some ⟨K, 0, none⟩), .pointer (some ⟨K, 6, none⟩), .pointer (some ⟨Bb, 0, none⟩), .agg #[.int .i64 4, .int .i64 0, .int .i64 oh, .int .i64 0, .slice none 0 0]] wx (DoR wx K P x0 x1 x2 x3 fl)) :
    Calls Tryz.prog 51 #[.pointer (some ⟨K, 0, none⟩), .pointer (some ⟨K, 6, none⟩), .pointer (some ⟨Bb, 0, none⟩), .agg #[.int .i64 4, .int .i64 oh, .int .i64 oa, .int .i64 ol, .slice pp pn pc], .agg #[.int .i64 4, .int .i64 0, .int .i64 oh, .int .i64 0, .slice none 0 0]] w (DoR w K P x0 x1 x2 x3 fl) := by
  have kk : Chg [] w (((w.alloc (.cells #[.int .i64 4, .int .i64 oh, .int .i64 oa, .int .i64 ol, .slice pp pn pc] 33)).alloc (.cells #[.int .i64 4, .int .i64 0, .int .i64 oh, .int .i64 0, .slice none 0 0] 39)).alloc (.cells #[.int .i64 0, .int .i64 0, .int .i64 0, .int .i64 0, .slice none 0 0] 39)) := ((Chg.alloc w _).then_alloc _).then_alloc _
  obtain ⟨y1, y2, y3⟩ := heap_new3 w (.cells #[.int .i64 4, .int .i64 oh, .int .i64 oa, .int .i64 ol, .slice pp pn pc] 33) (.cells #[.int .i64 4, .int .i64 0, .int .i64 oh, .int .i64 0, .slice none 0 0] 39) (.cells #[.int .i64 0, .int .i64 0, .int .i64 0, .int .i64 0, .slice none 0 0] 39)
  generalize hw0 : ((w.alloc (.cells #[.int .i64 4, .int .i64 oh, .int .i64 oa, .int .i64 ol, .slice pp pn pc] 33)).alloc (.cells #[.int .i64 4, .int .i64 0, .int .i64 oh, .int .i64 0, .slice none 0 0] 39)).alloc (.cells #[.int .i64 0, .int .i64 0, .int .i64 0, .int .i64 0, .slice none 0 0] 39) = w0 at *
  have hz1 := heap_lt y1
  generalize hz : w.heap.size = z at *
  have z0 := cell_is y1 0 rfl
  have a0 := cell_is y2 0 rfl
  have a1 := cell_is y2 1 rfl
  have a2 := cell_is y2 2 rfl
  have a3 := cell_is y2 3 rfl
  have a4 := cell_is y2 4 rfl
  have HCo := Lib.hid (HC w0 kk)
  have HX := Lib.hid (And.intro y3 kk)
  clear HC y2 y3 kk
  go_enter Tryz.func51, Tryz.ntmps51
  go_wp2_with fail
  refine HCo.out.mono ?_
  rintro e w1 ⟨rfl, cs, hp, hK, h66⟩
  have y31 := h66 _ _ HX.out.1
  have t0 := cell_is y31 0 rfl
  have t1 := cell_is y31 1 rfl
  have t2 := cell_is y31 2 rfl
  have t3 := cell_is y31 3 rfl
  have t4 := cell_is y31 4 rfl
  have e0 := unfrozen y31 0
  have e1 := unfrozen y31 1
  have e2 := unfrozen y31 2
  have e3 := unfrozen y31 3
  have e4 := unfrozen y31 4
  have HR := Lib.hid (And.intro hp (And.intro hK h66))
  clear hp hK h66 z0 a0 a1 a2 a3 a4 y1
  go_wp2_with fail
  obtain ⟨y11, k11⟩ := set5 (.int .i64 x0) (.int .i64 x1) (.int .i64 x2) (.int .i64 x3) (.slice none 0 0) y31
  generalize ((((w1.setCell ⟨z + 2, 0, none⟩ (.int .i64 x0)).setCell ⟨z + 2, 1, none⟩ (.int .i64 x1)).setCell ⟨z + 2, 2, none⟩ (.int .i64 x2)).setCell ⟨z + 2, 3, none⟩ (.int .i64 x3)).setCell ⟨z + 2, 4, none⟩ (.slice none 0 0) = w6 at *
  have r0 := cell_is y11 0 rfl
  have r1 := cell_is y11 1 rfl
  have r2 := cell_is y11 2 rfl
  have r3 := cell_is y11 3 rfl
  have r4 := cell_is y11 4 rfl
  obtain ⟨hp, hK, h66⟩ := HR.out
  have tp : Tp w1 [z + 2] [39] := fun x hx => by
    rw [List.mem_singleton] at hx
    subst hx
    exact ⟨_, _, y31, by simp⟩
  refine bodyPost_ret (v := .tuple #[.agg #[.int .i64 x0, .int .i64 x1, .int .i64 x2, .int .i64 x3, .slice none 0 0], .bool fl]) (by simp [results, Tryz.results51, go_sem, r0, r1, r2, r3, r4]) rfl ?_
  refine ⟨rfl, cs, (hP cs).box hp k11 tp (fun x hx => by rw [List.mem_singleton] at hx; omega), k11.heap hK ?_, ((K66.of0 HX.out.2).trans h66).new k11 (fun x hx => by rw [List.mem_singleton] at hx; omega)⟩
  intro hm
  rw [List.mem_singleton] at hm
  exact heap_ne hK y31 (by simp) hm
set_option maxRecDepth 100000 in
set_option maxHeartbeats 4000000 in
theorem do_call (w : World) {K Bb lw gb nb cb : Nat} {P : Array Value → World → Prop} {kind oa ol h x0 x1 x2 x3 : Int} {pp : Option Addr} {pn pc : Nat} {fl : Bool} (hk : kind = 3 ∨ kind = 4) (hlw : lw ≤ w.heap.size) (hP : ∀ cs, Cl lw (P cs))
    (c3 : w.cell? ⟨K, 7, none⟩ = some (.slice (some ⟨gb, 0, none⟩) nb cb)) (hnb : 0 < nb) (g0 : w.cell? ⟨gb, 0, none⟩ = some (.pointer (some ⟨Bb, 0, none⟩))) (b0 : w.cell? ⟨Bb, 0, none⟩ = some (.int .i64 h)) (hh : 0 < h)
    (HC : ∀ wx, Chg [] w wx → Calls Tryz.prog 51 #[.pointer (some ⟨K, 0, none⟩), .pointer (some ⟨K, 6, none⟩), .pointer (some ⟨Bb, 0, none⟩), .agg #[.int .i64 kind, .int .i64 0, .int .i64 oa, .int .i64 ol, .slice pp pn pc], .agg #[.int .i64 kind, .int .i64 0, .int .i64 0, .int .i64 0, .slice none 0 0]] wx (DoR wx K P x0 x1 x2 x3 fl)) :
    Calls Tryz.prog 22 #[.pointer (some ⟨K, 0, none⟩), .pointer (some ⟨K, 6, none⟩), .agg #[.int .i64 kind, .int .i64 0, .int .i64 oa, .int .i64 ol, .slice pp pn pc]] w (DoR w K P x0 x1 x2 x3 fl) := by
  have kk : Chg [] w ((w.alloc (.cells #[.int .i64 kind, .int .i64 0, .int .i64 oa, .int .i64 ol, .slice pp pn pc] 33)).alloc (.cells #[.int .i64 0, .int .i64 0, .int .i64 0, .int .i64 0, .slice none 0 0] 39)) := (Chg.alloc w _).then_alloc _
  obtain ⟨y1, y2⟩ := heap_new2 w (.cells #[.int .i64 kind, .int .i64 0, .int .i64 oa, .int .i64 ol, .slice pp pn pc] 33) (.cells #[.int .i64 0, .int .i64 0, .int .i64 0, .int .i64 0, .slice none 0 0] 39)
  generalize hw0 : (w.alloc (.cells #[.int .i64 kind, .int .i64 0, .int .i64 oa, .int .i64 ol, .slice pp pn pc] 33)).alloc (.cells #[.int .i64 0, .int .i64 0, .int .i64 0, .int .i64 0, .slice none 0 0] 39) = w0 at *
  have hz1 := heap_lt y1
  generalize hz : w.heap.size = z at *
  have z0 := cell_is y1 0 rfl
  have z1 := cell_is y1 1 rfl
  have z2 := cell_is y1 2 rfl
  have z3 := cell_is y1 3 rfl
  have z4 := cell_is y1 4 rfl
  have t0 := cell_is y2 0 rfl
  have t1 := cell_is y2 1 rfl
  have t2 := cell_is y2 2 rfl
  have t3 := cell_is y2 3 rfl
  have t4 := cell_is y2 4 rfl
  have e0 := unfrozen y2 0
  have e1 := unfrozen y2 1
  have e2 := unfrozen y2 2
  have e3 := unfrozen y2 3
  have e4 := unfrozen y2 4
  have m1 : decide (kind = 1) = false := decide_eq_false (by omega)
  have m2 : decide (kind = 2) = false := decide_eq_false (by omega)
  go_enter Tryz.func22, Tryz.ntmps22
  go_upto_region 1 with fail
  apply wp_scope_straight
  go_upto_region 2 with fail
  have v2 : (((((w0.setCell ⟨z + 1, 0, none⟩ (.int .i64 kind)).setCell ⟨z + 1, 1, none⟩ (.int .i64 0)).setCell ⟨z + 1, 2, none⟩ (.int .i64 0)).setCell ⟨z + 1, 3, none⟩ (.int .i64 0)).setCell ⟨z + 1, 4, none⟩ (.slice none 0 0)).heap[z + 1]? = some (.cells #[.int .i64 kind, .int .i64 0, .int .i64 0, .int .i64 0, .slice none 0 0] 39 (0, 0)) := (set5 _ _ _ _ _ y2).1
  have k2 := (set5 (.int .i64 kind) (.int .i64 0) (.int .i64 0) (.int .i64 0) (.slice none 0 0) y2).2
  generalize ((((w0.setCell ⟨z + 1, 0, none⟩ (.int .i64 kind)).setCell ⟨z + 1, 1, none⟩ (.int .i64 0)).setCell ⟨z + 1, 2, none⟩ (.int .i64 0)).setCell ⟨z + 1, 3, none⟩ (.int .i64 0)).setCell ⟨z + 1, 4, none⟩ (.slice none 0 0) = w1 at *
  have kk1 : Chg [] w w1 := kk.trans k2 (fun x hx hlt => by rw [List.mem_singleton] at hx; omega)
  have v1 := k2.heap y1 (by simp)
  clear z0 z1 z2 z3 z4 t0 t1 t2 t3 t4 e0 e1 e2 e3 e4
  have z0 := cell_is v1 0 rfl
  have z1 := cell_is v1 1 rfl
  have z2 := cell_is v1 2 rfl
  have z3 := cell_is v1 3 rfl
  have z4 := cell_is v1 4 rfl
  have t0 := cell_is v2 0 rfl
  have t1 := cell_is v2 1 rfl
  have t2 := cell_is v2 2 rfl
  have t3 := cell_is v2 3 rfl
  have t4 := cell_is v2 4 rfl
  have HA := Lib.hid (at_ok w1 (K := K) (o := 6) (kk1.cell c3 (by simp)) rfl hnb (kk1.cell g0 (by simp)) (kk1.cell b0 (by simp)) hh)
  have HCo := Lib.hid (HC w1 kk1)
  have HX := Lib.hid (And.intro v2 kk1)
  clear HC v2 kk1 v1 kk y1 y2 k2 c3 g0 b0
  go_wp2_with fail
  refine HA.out.mono ?_
  rintro e w2 ⟨rfl, rfl⟩
  have n3 : ∀ {p : Prop}, (kind = 3 → p) → (kind = 4 → p) → p := fun h3 h4 => hk.elim h3 h4
  rcases hk with rfl | rfl
  all_goals
    go_wp2_with fail
    apply wp_label
    go_wp2_with fail
    refine HCo.out.mono ?_
    rintro e w3 ⟨rfl, cs, hp, hK, h66⟩
    have y31 := h66 _ _ HX.out.1
    have s0 := cell_is y31 0 rfl
    have s1 := cell_is y31 1 rfl
    have s2 := cell_is y31 2 rfl
    have s3 := cell_is y31 3 rfl
    have s4 := cell_is y31 4 rfl
    have e0 := unfrozen y31 0
    have e1 := unfrozen y31 1
    have e2 := unfrozen y31 2
    have e3 := unfrozen y31 3
    have e4 := unfrozen y31 4
    have HR := Lib.hid (And.intro hp (And.intro hK h66))
    clear hp hK h66 z0 z1 z2 z3 z4 t0 t1 t2 t3 t4
    go_wp2_with fail
    obtain ⟨y11, k11⟩ := set5 (.int .i64 x0) (.int .i64 x1) (.int .i64 x2) (.int .i64 x3) (.slice none 0 0) y31
    generalize ((((w3.setCell ⟨z + 1, 0, none⟩ (.int .i64 x0)).setCell ⟨z + 1, 1, none⟩ (.int .i64 x1)).setCell ⟨z + 1, 2, none⟩ (.int .i64 x2)).setCell ⟨z + 1, 3, none⟩ (.int .i64 x3)).setCell ⟨z + 1, 4, none⟩ (.slice none 0 0) = w6 at *
    have r0 := cell_is y11 0 rfl
    have r1 := cell_is y11 1 rfl
    have r2 := cell_is y11 2 rfl
    have r3 := cell_is y11 3 rfl
    have r4 := cell_is y11 4 rfl
    obtain ⟨hp, hK, h66⟩ := HR.out
    have tp : Tp w3 [z + 1] [39] := fun x hx => by
      rw [List.mem_singleton] at hx
      subst hx
      exact ⟨_, _, y31, by simp⟩
    simp only [Exit.noGoto]
    refine bodyPost_ret (v := .tuple #[.agg #[.int .i64 x0, .int .i64 x1, .int .i64 x2, .int .i64 x3, .slice none 0 0], .bool fl]) (by simp [results, Tryz.results22, go_sem, r0, r1, r2, r3, r4]) rfl ?_
    refine ⟨rfl, cs, (hP cs).box hp k11 tp (fun x hx => by rw [List.mem_singleton] at hx; omega), k11.heap hK ?_, ((K66.of0 HX.out.2).trans h66).new k11 (fun x hx => by rw [List.mem_singleton] at hx; omega)⟩
    intro hm
    rw [List.mem_singleton] at hm
    exact heap_ne hK y31 (by simp) hm
end Go.Proofs.YtliicpedddcfiaaGreat.C2
namespace Go.Proofs.YtliicpedddcfiaaGreat.C2
open Go.RowKit Go.Lib

set_option maxRecDepth 100000 in
set_option maxHeartbeats 4000000 in
theorem do_begin (w : World) {K lw : Nat} {P : Array Value → World → Prop} {x0 x1 x2 x3 : Int} (hlw : lw ≤ w.heap.size) (hP : ∀ cs, Cl lw (P cs))
    (HC : ∀ wx, Chg [] w wx → Calls Tryz.prog 49 #[.pointer (some ⟨K, 0, none⟩), .pointer (some ⟨K, 6, none⟩), .agg #[.int .i64 1, .int .i64 0, .int .i64 0, .int .i64 0, .slice none 0 0]] wx fun e w' =>
      e = .returned (.agg #[.int .i64 x0, .int .i64 x1, .int .i64 x2, .int .i64 x3, .slice none 0 0]) ∧ ∃ cs, P cs w' ∧ SchB w' K cs ∧ K66 wx w') :
    Calls Tryz.prog 22 #[.pointer (some ⟨K, 0, none⟩), .pointer (some ⟨K, 6, none⟩), .agg #[.int .i64 1, .int .i64 0, .int .i64 0, .int .i64 0, .slice none 0 0]] w (DoR w K P x0 x1 x2 x3 true) := by
  have kk : Chg [] w ((w.alloc (.cells #[.int .i64 1, .int .i64 0, .int .i64 0, .int .i64 0, .slice none 0 0] 33)).alloc (.cells #[.int .i64 0, .int .i64 0, .int .i64 0, .int .i64 0, .slice none 0 0] 39)) := (Chg.alloc w _).then_alloc _
  obtain ⟨y1, y2⟩ := heap_new2 w (.cells #[.int .i64 1, .int .i64 0, .int .i64 0, .int .i64 0, .slice none 0 0] 33) (.cells #[.int .i64 0, .int .i64 0, .int .i64 0, .int .i64 0, .slice none 0 0] 39)
  generalize hw0 : (w.alloc (.cells #[.int .i64 1, .int .i64 0, .int .i64 0, .int .i64 0, .slice none 0 0] 33)).alloc (.cells #[.int .i64 0, .int .i64 0, .int .i64 0, .int .i64 0, .slice none 0 0] 39) = w0 at *
  have hz1 := heap_lt y1
  generalize hz : w.heap.size = z at *
  have z0 := cell_is y1 0 rfl
  have z1 := cell_is y1 1 rfl
  have z2 := cell_is y1 2 rfl
  have z3 := cell_is y1 3 rfl
  have z4 := cell_is y1 4 rfl
  have t0 := cell_is y2 0 rfl
  have t1 := cell_is y2 1 rfl
  have t2 := cell_is y2 2 rfl
  have t3 := cell_is y2 3 rfl
  have t4 := cell_is y2 4 rfl
  have e0 := unfrozen y2 0
  have e1 := unfrozen y2 1
  have e2 := unfrozen y2 2
  have e3 := unfrozen y2 3
  have e4 := unfrozen y2 4
  go_enter Tryz.func22, Tryz.ntmps22
  go_upto_region 1 with fail
  apply wp_scope_straight
  go_upto_region 2 with fail
  have v2 : (((((w0.setCell ⟨z + 1, 0, none⟩ (.int .i64 1)).setCell ⟨z + 1, 1, none⟩ (.int .i64 0)).setCell ⟨z + 1, 2, none⟩ (.int .i64 0)).setCell ⟨z + 1, 3, none⟩ (.int .i64 0)).setCell ⟨z + 1, 4, none⟩ (.slice none 0 0)).heap[z + 1]? = some (.cells #[.int .i64 1, .int .i64 0, .int .i64 0, .int .i64 0, .slice none 0 0] 39 (0, 0)) := (set5 _ _ _ _ _ y2).1
  have k2 := (set5 (.int .i64 1) (.int .i64 0) (.int .i64 0) (.int .i64 0) (.slice none 0 0) y2).2
  generalize ((((w0.setCell ⟨z + 1, 0, none⟩ (.int .i64 1)).setCell ⟨z + 1, 1, none⟩ (.int .i64 0)).setCell ⟨z + 1, 2, none⟩ (.int .i64 0)).setCell ⟨z + 1, 3, none⟩ (.int .i64 0)).setCell ⟨z + 1, 4, none⟩ (.slice none 0 0) = w1 at *
  have kk1 : Chg [] w w1 := kk.trans k2 (fun x hx hlt => by rw [List.mem_singleton] at hx; omega)
  have v1 := k2.heap y1 (by simp)
  clear z0 z1 z2 z3 z4 t0 t1 t2 t3 t4 e0 e1 e2 e3 e4
  have z0 := cell_is v1 0 rfl
  have t0 := cell_is v2 0 rfl
  have t1 := cell_is v2 1 rfl
  have t2 := cell_is v2 2 rfl
  have t3 := cell_is v2 3 rfl
  have t4 := cell_is v2 4 rfl
  have HCo := Lib.hid (HC w1 kk1)
  have HX := Lib.hid (And.intro v2 kk1)
  clear HC v2 kk1 v1 kk y1 y2 k2
  go_wp2_with fail
  refine HCo.out.mono ?_
  rintro e w3 ⟨rfl, cs, hp, hK, h66⟩
  have y31 := h66 _ _ HX.out.1
  have s0 := cell_is y31 0 rfl
  have s1 := cell_is y31 1 rfl
  have s2 := cell_is y31 2 rfl
  have s3 := cell_is y31 3 rfl
  have s4 := cell_is y31 4 rfl
  have e0 := unfrozen y31 0
  have e1 := unfrozen y31 1
  have e2 := unfrozen y31 2
  have e3 := unfrozen y31 3
  have e4 := unfrozen y31 4
  have HR := Lib.hid (And.intro hp (And.intro hK h66))
  clear hp hK h66 z0 t0 t1 t2 t3 t4
  go_wp2_with fail
  obtain ⟨y11, k11⟩ := set5 (.int .i64 x0) (.int .i64 x1) (.int .i64 x2) (.int .i64 x3) (.slice none 0 0) y31
  generalize ((((w3.setCell ⟨z + 1, 0, none⟩ (.int .i64 x0)).setCell ⟨z + 1, 1, none⟩ (.int .i64 x1)).setCell ⟨z + 1, 2, none⟩ (.int .i64 x2)).setCell ⟨z + 1, 3, none⟩ (.int .i64 x3)).setCell ⟨z + 1, 4, none⟩ (.slice none 0 0) = w6 at *
  have r0 := cell_is y11 0 rfl
  have r1 := cell_is y11 1 rfl
  have r2 := cell_is y11 2 rfl
  have r3 := cell_is y11 3 rfl
  have r4 := cell_is y11 4 rfl
  obtain ⟨hp, hK, h66⟩ := HR.out
  have tp : Tp w3 [z + 1] [39] := fun x hx => by
    rw [List.mem_singleton] at hx
    subst hx
    exact ⟨_, _, y31, by simp⟩
  simp only [Exit.noGoto]
  refine bodyPost_ret (v := .tuple #[.agg #[.int .i64 x0, .int .i64 x1, .int .i64 x2, .int .i64 x3, .slice none 0 0], .bool true]) (by simp [results, Tryz.results22, go_sem, r0, r1, r2, r3, r4]) rfl ?_
  refine ⟨rfl, cs, (hP cs).box hp k11 tp (fun x hx => by rw [List.mem_singleton] at hx; omega), k11.heap hK ?_, ((K66.of0 HX.out.2).trans h66).new k11 (fun x hx => by rw [List.mem_singleton] at hx; omega)⟩
  intro hm
  rw [List.mem_singleton] at hm
  exact heap_ne hK y31 (by simp) hm
set_option maxRecDepth 100000 in
set_option maxHeartbeats 8000000 in
theorem step_told (w : World) {K P0 lw g o m c na : Nat} {P : Array Value → World → Prop} {cs : Array Value} {kind oh oa ol ev x0 x1 x2 x3 : Int} {pp : Option Addr} {pn pc : Nat} {av : Value} {xa : List Value} {q : Bool} (hlw : lw ≤ w.heap.size) (hKl : lw ≤ K) (hP : ∀ cs, Cl lw (P cs))
    (hB : SchB w K cs) (h1 : cs[1]? = some (.pointer (some ⟨P0, 0, none⟩))) (h2 : cs[6]? = some (.slice (some ⟨g, o, none⟩) (m + 1) c)) (h35 : cs[35]? = some (.int .i64 ev)) (hev : 0 ≤ ev ∧ ev ≤ 1000000) (_hc : m + 1 ≤ c)
    (u0 : w.cell? ⟨g, o, none⟩ = some (.int .i64 kind)) (u1 : w.cell? ⟨g, o + 1, none⟩ = some (.int .i64 oh)) (u2 : w.cell? ⟨g, o + 2, none⟩ = some (.int .i64 oa)) (u3 : w.cell? ⟨g, o + 3, none⟩ = some (.int .i64 ol)) (u4 : w.cell? ⟨g, o + 4, none⟩ = some (.slice pp pn pc)) (hgK : g ≠ K)
    (HD : ∀ wx, Chg [K] w wx → SchB wx K (cs.setIfInBounds 35 (.int .i64 (ev + 1))) → Calls Tryz.prog 22 #[.pointer (some ⟨K, 0, none⟩), .pointer (some ⟨K, 6, none⟩), .agg #[.int .i64 kind, .int .i64 oh, .int .i64 oa, .int .i64 ol, .slice pp pn pc]] wx (DoR wx K P x0 x1 x2 x3 true))
    (hQ : ∀ cs2 w2, P cs2 w2 → cs2[6]? = some (.slice (some ⟨g, o, none⟩) (m + 1) c) ∧ cs2[8]? = some av ∧ cs2[9]? = some (.bool q)) (hav : w.ownsRow lw 39 5 av na xa) (hna : na ≤ 900) :
    Calls Tryz.prog 10 #[.pointer (some ⟨K, 0, none⟩), .int .i64 2] w fun e w' => e = .returned (.tuple #[.agg #[.int .i64 x0, .int .i64 x1, .int .i64 x2, .int .i64 x3, .slice none 0 0], .int .i64 0]) ∧ ∃ av' cs2, P cs2 w' ∧
      SchB w' K (((cs2.setIfInBounds 6 (cutV g o m c)).setIfInBounds 9 (.bool false)).setIfInBounds 8 av') ∧ w'.ownsRow lw 39 5 av' (na + 1) (xa ++ [.int .i64 x0, .int .i64 x1, .int .i64 x2, .int .i64 x3, .slice none 0 0]) := by
  have k0 : Chg [] w (w.alloc (.cells #[.int .i64 0, .int .i64 0, .int .i64 0, .int .i64 0, .slice none 0 0] 39)) := Chg.alloc w _
  have y0 := heap_new w (.cells #[.int .i64 0, .int .i64 0, .int .i64 0, .int .i64 0, .slice none 0 0] 39)
  generalize hw0 : w.alloc (.cells #[.int .i64 0, .int .i64 0, .int .i64 0, .int .i64 0, .slice none 0 0] 39) = w0 at *
  generalize hz : w.heap.size = z at *
  have hKz : K < z := by rw [← hz]; exact heap_lt hB
  have hzl := heap_lt y0
  have B0 : SchB w0 K cs := k0.heap hB (by simp)
  have HCl : Hid (Calls Tryz.prog 19 #[.pointer (some ⟨K, 0, none⟩), .int .i64 2] w0 fun e w' => e = .returned (.pointer (some ⟨K, 6, none⟩)) ∧ w0 = w') := Lib.hid (client_in w0 B0 h1 ⟨by decide, by decide⟩)
  have c35 := cell_is B0 35 h35
  have f35 := unfrozen B0 35
  have n1 : IntKind.i64.wrap (ev + 1) = ev + 1 := by rw [IntKind.wrap_i64]; omega
  have hs35 : 35 < cs.size := (Array.getElem?_eq_some_iff.1 h35).1
  have HQ0 := Lib.hid (And.intro h2 (And.intro hQ hna))
  have HU := Lib.hid (And.intro u0 (And.intro u1 (And.intro u2 (And.intro u3 u4))))
  have HDo := Lib.hid HD
  have HZo := Lib.hid (show ∀ g', av.ownBlock = some g' → g' < z from fun g' hg' => by
    obtain ⟨-, cur, hh⟩ := own_elem hav hg'
    rw [← hz]
    exact heap_lt hh)
  have HB := Lib.hid (And.intro hB (And.intro k0 (And.intro y0 (And.intro B0 hav))))
  clear hB h1 h35 u0 u1 u2 u3 u4 HD hQ hav k0 y0 B0 h2
  go_enter Tryz.func10, Tryz.ntmps10
  go_wp2_with fail
  refine HCl.out.mono ?_
  rintro e w1 ⟨rfl, rfl⟩
  go_upto_region 5 with fail
  obtain ⟨hB, k0, y0, B0, hav⟩ := HB.out
  have B1 : SchB (w0.setCell ⟨K, 35, none⟩ (.int .i64 (ev + 1))) K (cs.setIfInBounds 35 (.int .i64 (ev + 1))) := heap_set B0 35 _ rfl
  have k1 : Chg [K] w0 (w0.setCell ⟨K, 35, none⟩ (.int .i64 (ev + 1))) := Chg.set _ _ _ _
  generalize w0.setCell ⟨K, 35, none⟩ (.int .i64 (ev + 1)) = w1 at *
  have k01 : Chg [K] w w1 := (k0.mono (fun x hx _ => by cases hx)).then k1
  have y1 := k1.heap y0 (by simp; omega)
  have c2 : w1.cell? ⟨K, 6, none⟩ = some (.slice (some ⟨g, o, none⟩) (m + 1) c) := cell_is B1 6 (by rw [Array.getElem?_setIfInBounds_ne (by decide)]; exact HQ0.out.1)
  have u0 := k01.cell HU.out.1 (by simpa using hgK)
  have u1 := k01.cell HU.out.2.1 (by simpa using hgK)
  have u2 := k01.cell HU.out.2.2.1 (by simpa using hgK)
  have u3 := k01.cell HU.out.2.2.2.1 (by simpa using hgK)
  have u4 := k01.cell HU.out.2.2.2.2 (by simpa using hgK)
  have n2 : decide (((m + 1 : Nat) : Int) = 0) = false := decide_eq_false (by omega)
  have n3 : decide ((m : Int) + 1 = 0) = false := decide_eq_false (by omega)
  have n4 : ¬ ((m : Int) + 1 = 0) := by omega
  have HD1 := Lib.hid (HDo.out w1 k01 B1)
  have HX1 := Lib.hid (And.intro y1 (own_chgB hav k01 (fun g' hg' hm => by
    rw [List.mem_singleton] at hm
    subst hm
    obtain ⟨-, cur, hh⟩ := own_elem hav hg'
    rw [show w.heap[_]? = _ from hB] at hh
    cases hh)))
  clear hB k0 y0 B0 hav B1 k1 y1 c35 f35 n1 HB HDo HCl
  go_wp2_with fail
  refine HD1.out.mono ?_
  rintro e w2 ⟨rfl, cs2, hp, hK2, h66⟩
  have hq2 := HQ0.out.2.1 cs2 w2 hp
  have HQ := Lib.hid (And.intro HQ0.out.1 (And.intro hq2.1 (And.intro hq2.2.1 (And.intro hq2.2.2 HQ0.out.2.2))))
  clear hq2
  have HX2 := Lib.hid (And.intro hp (And.intro hK2 (And.intro (h66 _ _ HX1.out.1) (own_k66 HX1.out.2 h66))))
  have hs12 : z < w2.heap.size := by have := heap_lt (h66 _ _ HX1.out.1); exact this
  clear hp hK2 h66 c2 u0 u1 u2 u3 u4 n2 n3 n4
  go_upto_region 11 with fail
  obtain ⟨hp, hK2, y2, hav2⟩ := HX2.out
  have k3 : Chg [] w2 (w2.alloc (.cells #[.int .i64 x0, .int .i64 x1, .int .i64 x2, .int .i64 x3, .slice none 0 0] 39)) := Chg.alloc w2 _
  have b3 := heap_new w2 (.cells #[.int .i64 x0, .int .i64 x1, .int .i64 x2, .int .i64 x3, .slice none 0 0] 39)
  generalize w2.alloc (.cells #[.int .i64 x0, .int .i64 x1, .int .i64 x2, .int .i64 x3, .slice none 0 0] 39) = w3 at *
  generalize hzb : w2.heap.size = zb at *
  have B3 : SchB w3 K cs2 := k3.heap hK2 (by simp)
  have y3 := k3.heap y2 (by simp)
  have hp3 := (hP cs2).box hp k3 (fun x hx => by cases hx) (fun x hx => by cases hx)
  have hav3 := own_keep hav2 k3.below0
  have hKb : K < zb := by rw [← hzb]; exact heap_lt hK2
  have c2 := cell_is B3 6 HQ.out.2.1
  have c5 := cell_is B3 9 HQ.out.2.2.2.1
  have f2 := unfrozen B3 6
  have f5 := unfrozen B3 9
  clear hp hK2 y2 hav2 k3 HX2
  go_upto_region 12 with fail
  have hcut : cutV g o m c = .slice (if c = 1 then some ⟨g, o, none⟩ else some ⟨g, o + 5, none⟩) m (c - 1) := rfl
  generalize (if c = 1 then some (⟨g, o, none⟩ : Addr) else some ⟨g, o + 5, none⟩) = pq at *
  have HCut := Lib.hid hcut
  clear hcut
  have B4 : SchB ((w3.setCell ⟨K, 6, none⟩ (.slice pq m (c - 1))).setCell ⟨K, 9, none⟩ (.bool false)) K ((cs2.setIfInBounds 6 (.slice pq m (c - 1))).setIfInBounds 9 (.bool false)) := heap_set (heap_set B3 6 _ rfl) 9 _ rfl
  have k4 : Chg [K] w3 ((w3.setCell ⟨K, 6, none⟩ (.slice pq m (c - 1))).setCell ⟨K, 9, none⟩ (.bool false)) := (Chg.set _ _ _ _).then (Chg.set _ _ _ _)
  generalize (w3.setCell ⟨K, 6, none⟩ (.slice pq m (c - 1))).setCell ⟨K, 9, none⟩ (.bool false) = w4 at *
  have tpK : Tp w3 [K] [72, 39] := fun x hx => by
    rw [List.mem_singleton] at hx
    subst hx
    exact ⟨_, _, B3, by simp⟩
  have hp4 := (hP cs2).keep _ _ _ hp3 k4 tpK (fun x hx => by rw [List.mem_singleton] at hx; omega)
  have y4 := k4.heap y3 (by simp; omega)
  have b4 := k4.heap b3 (by simp; omega)
  have hav4 := own_chgB hav3 k4 (fun g' hg' hm => by
    rw [List.mem_singleton] at hm
    subst hm
    obtain ⟨-, cur, hh⟩ := own_elem hav3 hg'
    rw [show w3.heap[_]? = _ from B3] at hh
    cases hh)
  obtain ⟨pa, ca, rfl, hca⟩ := own_form hav4
  have e24 : (((cs2.setIfInBounds 6 (Value.slice pq m (c - 1))).setIfInBounds 9 (.bool false))[8]? = some (.slice pa na ca)) := by
    rw [Array.getElem?_setIfInBounds_ne (by decide), Array.getElem?_setIfInBounds_ne (by decide)]
    exact HQ.out.2.2.1
  have HB4 := Lib.hid (And.intro B4 (And.intro hp4 (And.intro y4 (And.intro b4 (And.intro hav4 e24)))))
  have s4 : w4.cell? ⟨K, 8, none⟩ = some (.slice pa na ca) := cell_is B4 8 e24
  have s4d : w4.drew.cell? ⟨K, 8, none⟩ = some (.slice pa na ca) := s4
  have d0 := cell_is b4 0 rfl
  have d1 := cell_is b4 1 rfl
  have d2 := cell_is b4 2 rfl
  have d3 := cell_is b4 3 rfl
  have d4 := cell_is b4 4 rfl
  have d0d : w4.drew.cell? ⟨zb, 0, none⟩ = some (.int .i64 x0) := d0
  have d1d : w4.drew.cell? ⟨zb, 1, none⟩ = some (.int .i64 x1) := d1
  have d2d : w4.drew.cell? ⟨zb, 2, none⟩ = some (.int .i64 x2) := d2
  have d3d : w4.drew.cell? ⟨zb, 3, none⟩ = some (.int .i64 x3) := d3
  have d4d : w4.drew.cell? ⟨zb, 4, none⟩ = some (.slice none 0 0) := d4
  have kA : Chg [] w4 (w4.alloc (.cells #[.int .i64 x0, .int .i64 x1, .int .i64 x2, .int .i64 x3, .slice none 0 0] 39)).drew := (Chg.alloc w4 _).drew
  have yA : (w4.alloc (.cells #[.int .i64 x0, .int .i64 x1, .int .i64 x2, .int .i64 x3, .slice none 0 0] 39)).drew.heap[w4.heap.size]? = _ := heap_new w4 (.cells #[.int .i64 x0, .int .i64 x1, .int .i64 x2, .int .i64 x3, .slice none 0 0] 39)
  have sA := kA.cell s4 (by simp)
  have BA := kA.heap B4 (by simp)
  have oA := own_keep hav4 kA.below0
  have hlA : lw ≤ (w4.alloc (.cells #[.int .i64 x0, .int .i64 x1, .int .i64 x2, .int .i64 x3, .slice none 0 0] 39)).drew.heap.size := by have := kA.size; have := heap_lt y4; omega
  have hna := HQ.out.2.2.2.2
  clear B4 hp4 y4 b4 hav4 e24 k4 hp3 y3 b3 hav3 B3 c2 c5 f2 f5 tpK
  go_region_law
    (first
      | (refine step_append_ans rfl (.tmp 62) (.tmp 64) rfl lw w4.heap.size 1 na (.slice pa na ca) _ _ _ _ _ xa rfl oA hlA (by omega) rfl yA ⟨rfl, rfl, rfl, rfl, rfl⟩ ?_; intro g7 c7 w7 o7 k7 n7; have B7 : SchB w7 K _ := k7.heap BA (own_not oA BA (by decide)); have s8 := cell_is B7 8 HB4.out.2.2.2.2.2; have f8 := unfrozen B7 8))
  all_goals
    obtain ⟨B4, hp4, y4, b4, hav4, e24⟩ := HB4.out
    have B8 : SchB (w7.setCell ⟨K, 8, none⟩ (.slice (some ⟨g7, 0, none⟩) (na + 1) c7)) K (((cs2.setIfInBounds 6 (.slice pq m (c - 1))).setIfInBounds 9 (.bool false)).setIfInBounds 8 (.slice (some ⟨g7, 0, none⟩) (na + 1) c7)) := heap_set B7 8 _ rfl
    have ks8 : Chg [K] w7 (w7.setCell ⟨K, 8, none⟩ (.slice (some ⟨g7, 0, none⟩) (na + 1) c7)) := Chg.set _ _ _ _
    generalize w7.setCell ⟨K, 8, none⟩ (.slice (some ⟨g7, 0, none⟩) (na + 1) c7) = w8 at *
    have o8 := own_chgB o7 ks8 (fun g' hg' hm => by
      rw [List.mem_singleton] at hm
      subst hm
      obtain ⟨-, cur, hh⟩ := own_elem o7 hg'
      rw [show w7.heap[_]? = _ from B7] at hh
      cases hh)
    have k48 : Chg (K :: (Value.slice pa na ca).ownBlock.toList) w4 w8 := ((kA.mono (fun x hx _ => by cases hx)).then (k7.mono (fun x hx _ => List.mem_cons_of_mem _ hx))).then (ks8.mono (fun x hx _ => by simp at hx; simp [hx]))
    have tp4 : Tp w4 (K :: (Value.slice pa na ca).ownBlock.toList) [72, 39] := fun x hx => by
      rcases List.mem_cons.1 hx with rfl | hx
      · exact ⟨_, _, B4, by simp⟩
      · obtain ⟨-, cur, hh⟩ := own_elem hav4 (show (Value.slice pa na ca).ownBlock = some x by simpa using hx)
        exact ⟨_, _, hh, by simp⟩
    have hp8 := (hP cs2).keep _ _ _ hp4 k48 tp4 (fun x hx => by
      rcases List.mem_cons.1 hx with rfl | hx
      · exact hKl
      · exact (own_elem hav4 (show (Value.slice pa na ca).ownBlock = some x by simpa using hx)).1)
    have nin : ∀ x, K < x → z ≤ x → x ∉ K :: (Value.slice pa na ca).ownBlock.toList := fun x h1 h2 hx => by
      rcases List.mem_cons.1 hx with e | hx
      · omega
      · have := HZo.out x (by simpa using hx)
        omega
    have y8 := k48.heap y4 (nin z hKz (Nat.le_refl _))
    have b8 := k48.heap b4 (nin zb hKb (by omega))
    have hsz8 := k48.size
    have hg7z : g7 ≠ z := by
      rcases n7 with h | h
      · have := HZo.out g7 h
        omega
      · have h1 := heap_lt y4
        have h2 := kA.size
        have h' : g7 = (w4.alloc (.cells #[.int .i64 x0, .int .i64 x1, .int .i64 x2, .int .i64 x3, .slice none 0 0] 39)).drew.heap.size := h
        omega
    clear B4 hp4 y4 b4 hav4 e24 HB4 o7 k7 n7 B7 s8 f8 kA yA sA BA oA hlA s4 s4d d0 d1 d2 d3 d4 d0d d1d d2d d3d d4d k48 tp4 ks8
    have d0 := cell_is b8 0 rfl
    have d1 := cell_is b8 1 rfl
    have d2 := cell_is b8 2 rfl
    have d3 := cell_is b8 3 rfl
    have d4 := cell_is b8 4 rfl
    have HK8 := Lib.hid (And.intro B8 (And.intro hp8 o8))
    clear B8 hp8 o8
    go_wp2_with fail
    refine (kept_nil w8).mono ?_
    rintro e w9 ⟨rfl, k9⟩
    have y9 := k9.heap y8 (by simp)
    have t0 := cell_is y9 0 rfl
    have t1 := cell_is y9 1 rfl
    have t2 := cell_is y9 2 rfl
    have t3 := cell_is y9 3 rfl
    have t4 := cell_is y9 4 rfl
    have e0 := unfrozen y9 0
    have e1 := unfrozen y9 1
    have e2 := unfrozen y9 2
    have e3 := unfrozen y9 3
    have e4 := unfrozen y9 4
    go_wp2_with fail
    obtain ⟨y11, k11⟩ := set5 (.int .i64 x0) (.int .i64 x1) (.int .i64 x2) (.int .i64 x3) (.slice none 0 0) y9
    generalize ((((w9.setCell ⟨z, 0, none⟩ (.int .i64 x0)).setCell ⟨z, 1, none⟩ (.int .i64 x1)).setCell ⟨z, 2, none⟩ (.int .i64 x2)).setCell ⟨z, 3, none⟩ (.int .i64 x3)).setCell ⟨z, 4, none⟩ (.slice none 0 0) = w10 at *
    have r0 := cell_is y11 0 rfl
    have r1 := cell_is y11 1 rfl
    have r2 := cell_is y11 2 rfl
    have r3 := cell_is y11 3 rfl
    have r4 := cell_is y11 4 rfl
    obtain ⟨B8, hp8, o8⟩ := HK8.out
    have kf : Chg [z] w8 w10 := (k9.mono (fun x hx _ => by cases hx)).then k11
    have tp8 : Tp w8 [z] [39] := fun x hx => by
      rw [List.mem_singleton] at hx
      subst hx
      exact ⟨_, _, y8, by simp⟩
    refine bodyPost_ret (v := .tuple #[.agg #[.int .i64 x0, .int .i64 x1, .int .i64 x2, .int .i64 x3, .slice none 0 0], .int .i64 0]) (by simp [results, Tryz.results10, go_sem, r0, r1, r2, r3, r4]) rfl ?_
    refine ⟨rfl, _, cs2, (hP cs2).box hp8 kf tp8 (fun x hx => by rw [List.mem_singleton] at hx; omega), (by rw [HCut.out]; exact kf.heap B8 (by intro hm; rw [List.mem_singleton] at hm; omega)), own_chgB o8 kf (fun g' hg' hm => ?_)⟩
    rw [List.mem_singleton] at hm
    cases hg'
    exact hg7z hm
end Go.Proofs.YtliicpedddcfiaaGreat.C2
namespace Go.Proofs.YtliicpedddcfiaaGreat.C2
open Go.RowKit Go.Lib

set_option maxRecDepth 100000 in
set_option maxHeartbeats 8000000 in
theorem step_wait (w : World) {K P0 lw g o m c : Nat} {P : Array Value → World → Prop} {cs : Array Value} {kind oh oa ol ev x0 x1 x2 x3 : Int} {pp : Option Addr} {pn pc : Nat} {q : Bool} (hlw : lw ≤ w.heap.size) (hKl : lw ≤ K) (hP : ∀ cs, Cl lw (P cs))
    (hB : SchB w K cs) (h1 : cs[1]? = some (.pointer (some ⟨P0, 0, none⟩))) (h2 : cs[6]? = some (.slice (some ⟨g, o, none⟩) (m + 1) c)) (h35 : cs[35]? = some (.int .i64 ev)) (hev : 0 ≤ ev ∧ ev ≤ 1000000) (_hc : m + 1 ≤ c)
    (u0 : w.cell? ⟨g, o, none⟩ = some (.int .i64 kind)) (u1 : w.cell? ⟨g, o + 1, none⟩ = some (.int .i64 oh)) (u2 : w.cell? ⟨g, o + 2, none⟩ = some (.int .i64 oa)) (u3 : w.cell? ⟨g, o + 3, none⟩ = some (.int .i64 ol)) (u4 : w.cell? ⟨g, o + 4, none⟩ = some (.slice pp pn pc)) (hgK : g ≠ K)
    (HD : ∀ wx, Chg [K] w wx → SchB wx K (cs.setIfInBounds 35 (.int .i64 (ev + 1))) → Calls Tryz.prog 22 #[.pointer (some ⟨K, 0, none⟩), .pointer (some ⟨K, 6, none⟩), .agg #[.int .i64 kind, .int .i64 oh, .int .i64 oa, .int .i64 ol, .slice pp pn pc]] wx (DoR wx K P x0 x1 x2 x3 false))
    (hQ : ∀ cs2 w2, P cs2 w2 → cs2[9]? = some (.bool q)) :
    Calls Tryz.prog 10 #[.pointer (some ⟨K, 0, none⟩), .int .i64 2] w fun e w' => e = .returned (.tuple #[.agg #[.int .i64 0, .int .i64 0, .int .i64 0, .int .i64 0, .slice none 0 0], .int .i64 16]) ∧ ∃ cs2, P cs2 w' ∧ SchB w' K (cs2.setIfInBounds 9 (.bool true)) ∧ K66 w w' := by
  have k0 : Chg [] w (w.alloc (.cells #[.int .i64 0, .int .i64 0, .int .i64 0, .int .i64 0, .slice none 0 0] 39)) := Chg.alloc w _
  have y0 := heap_new w (.cells #[.int .i64 0, .int .i64 0, .int .i64 0, .int .i64 0, .slice none 0 0] 39)
  generalize hw0 : w.alloc (.cells #[.int .i64 0, .int .i64 0, .int .i64 0, .int .i64 0, .slice none 0 0] 39) = w0 at *
  generalize hz : w.heap.size = z at *
  have hKz : K < z := by rw [← hz]; exact heap_lt hB
  have hzl := heap_lt y0
  have B0 : SchB w0 K cs := k0.heap hB (by simp)
  have HCl : Hid (Calls Tryz.prog 19 #[.pointer (some ⟨K, 0, none⟩), .int .i64 2] w0 fun e w' => e = .returned (.pointer (some ⟨K, 6, none⟩)) ∧ w0 = w') := Lib.hid (client_in w0 B0 h1 ⟨by decide, by decide⟩)
  have c35 := cell_is B0 35 h35
  have f35 := unfrozen B0 35
  have n1 : IntKind.i64.wrap (ev + 1) = ev + 1 := by rw [IntKind.wrap_i64]; omega
  have hs35 : 35 < cs.size := (Array.getElem?_eq_some_iff.1 h35).1
  have HQ0 := Lib.hid (And.intro h2 hQ)
  have HU := Lib.hid (And.intro u0 (And.intro u1 (And.intro u2 (And.intro u3 u4))))
  have HDo := Lib.hid HD
  have HB := Lib.hid (And.intro hB (And.intro k0 (And.intro y0 B0)))
  clear hB h1 h35 u0 u1 u2 u3 u4 HD hQ k0 y0 B0 h2
  go_enter Tryz.func10, Tryz.ntmps10
  go_wp2_with fail
  refine HCl.out.mono ?_
  rintro e w1 ⟨rfl, rfl⟩
  go_upto_region 5 with fail
  obtain ⟨hB, k0, y0, B0⟩ := HB.out
  have kw0 : K66 w w0 := K66.of0 k0
  have B1 : SchB (w0.setCell ⟨K, 35, none⟩ (.int .i64 (ev + 1))) K (cs.setIfInBounds 35 (.int .i64 (ev + 1))) := heap_set B0 35 _ rfl
  have k1 : Chg [K] w0 (w0.setCell ⟨K, 35, none⟩ (.int .i64 (ev + 1))) := Chg.set _ _ _ _
  generalize w0.setCell ⟨K, 35, none⟩ (.int .i64 (ev + 1)) = w1 at *
  have k01 : Chg [K] w w1 := (k0.mono (fun x hx _ => by cases hx)).then k1
  have y1 := k1.heap y0 (by simp; omega)
  have c2 : w1.cell? ⟨K, 6, none⟩ = some (.slice (some ⟨g, o, none⟩) (m + 1) c) := cell_is B1 6 (by rw [Array.getElem?_setIfInBounds_ne (by decide)]; exact HQ0.out.1)
  have u0 := k01.cell HU.out.1 (by simpa using hgK)
  have u1 := k01.cell HU.out.2.1 (by simpa using hgK)
  have u2 := k01.cell HU.out.2.2.1 (by simpa using hgK)
  have u3 := k01.cell HU.out.2.2.2.1 (by simpa using hgK)
  have u4 := k01.cell HU.out.2.2.2.2 (by simpa using hgK)
  have n2 : decide (((m + 1 : Nat) : Int) = 0) = false := decide_eq_false (by omega)
  have n3 : decide ((m : Int) + 1 = 0) = false := decide_eq_false (by omega)
  have n4 : ¬ ((m : Int) + 1 = 0) := by omega
  have HD1 := Lib.hid (HDo.out w1 k01 B1)
  have kw1 : K66 w w1 := fun x cs3 hx => k1.heap (kw0 x cs3 hx) (by
    intro hm
    rw [List.mem_singleton] at hm
    subst hm
    have := kw0 x cs3 hx
    rw [show w0.heap[_]? = _ from B0] at this
    cases this)
  have HX1 := Lib.hid (And.intro y1 kw1)
  clear hB k0 y0 B0 kw0 kw1 B1 k1 y1 c35 f35 n1 HB HDo HCl
  go_wp2_with fail
  refine HD1.out.mono ?_
  rintro e w2 ⟨rfl, cs2, hp, hK2, h66⟩
  have HQ := Lib.hid (And.intro HQ0.out.1 (HQ0.out.2 cs2 w2 hp))
  have y2 := h66 _ _ HX1.out.1
  have hs12 : z < w2.heap.size := heap_lt y2
  have kw2 := HX1.out.2.trans h66
  have k3 : Chg [] w2 (w2.alloc (.cells #[.int .i64 x0, .int .i64 x1, .int .i64 x2, .int .i64 x3, .slice none 0 0] 39)) := Chg.alloc w2 _
  have B3 : SchB (w2.alloc (.cells #[.int .i64 x0, .int .i64 x1, .int .i64 x2, .int .i64 x3, .slice none 0 0] 39)) K cs2 := k3.heap hK2 (by simp)
  have y3 := k3.heap y2 (by simp)
  have HX2 := Lib.hid (And.intro hp (And.intro hK2 (And.intro y2 (And.intro kw2 (And.intro k3 (And.intro B3 y3))))))
  clear hp hK2 h66 c2 u0 u1 u2 u3 u4 n2 n3 n4 y2 kw2 k3 B3 y3
  go_upto_region 8 with fail
  obtain ⟨hp, hK2, y2, kw2, k3, B3, y3⟩ := HX2.out
  generalize w2.alloc (.cells #[.int .i64 x0, .int .i64 x1, .int .i64 x2, .int .i64 x3, .slice none 0 0] 39) = w3 at *
  have hp3 := (hP cs2).box hp k3 (fun x hx => by cases hx) (fun x hx => by cases hx)
  have kw3 := kw2.trans (K66.of0 k3)
  have c5 := cell_is B3 9 HQ.out.2
  have f5 := unfrozen B3 9
  have B4 : SchB (w3.setCell ⟨K, 9, none⟩ (.bool true)) K (cs2.setIfInBounds 9 (.bool true)) := heap_set B3 9 _ rfl
  have k4 : Chg [K] w3 (w3.setCell ⟨K, 9, none⟩ (.bool true)) := Chg.set _ _ _ _
  have HX4 := Lib.hid (And.intro hp3 (And.intro kw3 (And.intro B4 (And.intro k4 (And.intro B3 y3)))))
  clear hp hK2 y2 kw2 k3 HX2 hp3 kw3 B4 k4 y3
  go_upto_region 10 with fail
  obtain ⟨hp3, kw3, B4, k4, B3', y3⟩ := HX4.out
  generalize w3.setCell ⟨K, 9, none⟩ (.bool true) = w4 at *
  have hp4 := (hP cs2).keep _ _ _ hp3 k4 (fun x hx => by
    rw [List.mem_singleton] at hx
    subst hx
    exact ⟨_, _, B3, by simp⟩) (fun x hx => by rw [List.mem_singleton] at hx; omega)
  have kw4 : K66 w w4 := fun x cs3 hx => k4.heap (kw3 x cs3 hx) (by
    intro hm
    rw [List.mem_singleton] at hm
    subst hm
    have := kw3 x cs3 hx
    rw [show w3.heap[_]? = _ from B3] at this
    cases this)
  have y4 := k4.heap y3 (by simp; omega)
  have t0 := cell_is y4 0 rfl
  have t1 := cell_is y4 1 rfl
  have t2 := cell_is y4 2 rfl
  have t3 := cell_is y4 3 rfl
  have t4 := cell_is y4 4 rfl
  have e0 := unfrozen y4 0
  have e1 := unfrozen y4 1
  have e2 := unfrozen y4 2
  have e3 := unfrozen y4 3
  have e4 := unfrozen y4 4
  have HX5 := Lib.hid (And.intro hp4 (And.intro kw4 (And.intro B4 y4)))
  clear hp3 kw3 B4 k4 B3' y3 hp4 kw4 y4 HX4 c5 f5 B3
  go_wp2_with fail
  obtain ⟨hp4, kw4, B4, y4⟩ := HX5.out
  obtain ⟨y11, k11⟩ := set5 (.int .i64 0) (.int .i64 0) (.int .i64 0) (.int .i64 0) (.slice none 0 0) y4
  generalize ((((w4.setCell ⟨z, 0, none⟩ (.int .i64 0)).setCell ⟨z, 1, none⟩ (.int .i64 0)).setCell ⟨z, 2, none⟩ (.int .i64 0)).setCell ⟨z, 3, none⟩ (.int .i64 0)).setCell ⟨z, 4, none⟩ (.slice none 0 0) = w10 at *
  have r0 := cell_is y11 0 rfl
  have r1 := cell_is y11 1 rfl
  have r2 := cell_is y11 2 rfl
  have r3 := cell_is y11 3 rfl
  have r4 := cell_is y11 4 rfl
  have tp8 : Tp w4 [z] [39] := fun x hx => by
    rw [List.mem_singleton] at hx
    subst hx
    exact ⟨_, _, y4, by simp⟩
  refine bodyPost_ret (v := .tuple #[.agg #[.int .i64 0, .int .i64 0, .int .i64 0, .int .i64 0, .slice none 0 0], .int .i64 16]) (by simp [results, Tryz.results10, go_sem, r0, r1, r2, r3, r4]) rfl ?_
  exact ⟨rfl, cs2, (hP cs2).box hp4 k11 tp8 (fun x hx => by rw [List.mem_singleton] at hx; omega), k11.heap B4 (by intro hm; rw [List.mem_singleton] at hm; omega), kw4.new k11 (fun x hx => by rw [List.mem_singleton] at hx; omega)⟩
end Go.Proofs.YtliicpedddcfiaaGreat.C2
namespace Go.Proofs.YtliicpedddcfiaaGreat.C2
open Go.RowKit Go.Lib

end Go.Proofs.YtliicpedddcfiaaGreat.C2
namespace Go.Proofs.YtliicpedddcfiaaGreat.C2
open Go.RowKit Go.Lib

/-- a schedule whose first client has a transaction that is open. -/
def PO (x : Pl25) (o av : Value) (q : Bool) (fr ev : Int) (k : Nat) (cs : Array Value) (w : World) : Prop :=
  ∃ T base W rw Q V Bb bv al qf L, cs = sch x.d.N x.d.P o bv av q al ev ∧ Beg1 w x.lw Bb bv 1 fr 0 ∧ Opn w x.lw x.d x.ops T base W rw Q V qf L ∧ L.length = k ∧ Bas x.w0 x.lw x.C x.K x.R x.g x.E x.D x.cE x.cD x.r w
theorem PO.cl (x : Pl25) (o av : Value) (q : Bool) (fr ev : Int) (k : Nat) (cs : Array Value) : Cl x.lw (PO x o av q fr ev k cs) := ⟨fun a b S h hc ht hl => by
  obtain ⟨T, base, W, rw, Q, V, Bb, bv, al, qf, L, h1, h2, h3, h4, h5⟩ := h
  refine ⟨T, base, W, rw, Q, V, Bb, bv, al, qf, L, h1, h2.keep hc (fun y hy _ cs t fr hh => ?_), h3.keep hc ht (by decide), h4, h5.tp hc ht (by decide) hl⟩
  obtain ⟨cs2, t2, e1, e2⟩ := ht y hy
  rw [e1] at hh
  cases hh
  simp at e2
  rcases e2 with rfl | rfl <;> exact ⟨by decide, by decide⟩⟩
/-- a stage: the schedule's cells, the answers' row. -/
def Stg (x : Pl25) (o av : Value) (q : Bool) (fr ev : Int) (k na : Nat) (w : World) : Prop := ∃ cs xs, PO x o av q fr ev k cs w ∧ SchB w x.K cs ∧ w.ownsRow x.lw 39 5 av na xs
set_option maxRecDepth 100000 in
theorem st1 (x : Pl25) (w : World) {c : Nat} (hS : Sto w x.lw x.d (s00 x.lw) (g00 x.lw x.ops)) (hB : SchB w x.K (sch x.d.N x.d.P (.slice (some ⟨x.g, 0, none⟩) 3 c) (.slice none 0 0) (.slice none 0 0) false (.slice none 0 0) 0)) (hb : Bas x.w0 x.lw x.C x.K x.R x.g x.E x.D x.cE x.cD x.r w) (hKl : x.lw ≤ x.K) (hlw : x.lw ≤ w.heap.size) (hc : 3 ≤ c) :
    Calls Tryz.prog 10 #[.pointer (some ⟨x.K, 0, none⟩), .int .i64 2] w fun e w' => ∃ v av, e = .returned (.tuple #[v, .int .i64 0]) ∧ Stg x (.slice (some ⟨x.g, 5, none⟩) 2 (c - 1)) av false 1 1 0 1 w' := by
  obtain ⟨cur, hr, q0, q1, q2, q3, q4, -⟩ := hb.ops.row
  have hgK : x.g ≠ x.K := heap_ne hr hB (by simp)
  refine (step_told w (P := PO x (.slice (some ⟨x.g, 0, none⟩) 3 c) (.slice none 0 0) false 1 1 0) (q := false) (av := .slice none 0 0) (na := 0) (xa := []) (m := 2) (x0 := 1) (x1 := 0) (x2 := 0) (x3 := 0) hlw hKl (fun cs => PO.cl x _ _ _ _ _ _ cs) hB rfl rfl rfl ⟨by decide, by decide⟩ hc (cell_is hr 0 q0) (cell_is hr 1 q1) (cell_is hr 2 q2) (cell_is hr 3 q3) (cell_is hr 4 q4) hgK ?_ ?_ (nil66 _ _) (by decide)).mono ?_
  · intro wx kx hBx
    have tK := chgK hB
    have hSx := hS.keepA kx (tK.av (by decide)) (tK.map hS.mx.ver.m) (tK.map hS.mx.book.2) (tK.map hS.mx.map)
    have hbx := hb.tp kx tK (by decide) (fun y hy => by rw [List.mem_singleton] at hy; omega)
    have hlx : x.lw ≤ wx.heap.size := Nat.le_trans hlw kx.size
    refine do_begin wx hlx (fun cs => PO.cl x _ _ _ _ _ _ cs) (fun wy ky => ?_)
    have hSy := hSx.keep ky
    refine (cbegin_ok wy (K := x.K) (o := .slice (some ⟨x.g, 0, none⟩) 3 c) (bv := .slice none 0 0) (av := .slice none 0 0) (al := .slice none 0 0) (q := false) (ev := 1) (nb := 0) (na := 0) (xb := []) (xa := []) hSy (ky.heap hBx (by simp)) (World.ownsRow_nil _ _ _ _) (World.ownsRow_nil _ _ _ _) (fun y hy => by cases hy) (by decide) (by decide) rfl (show (0 : Int) ≤ 0 by decide) (show (0 : Int) ≤ 1099511627776 by decide) (show (0 : Int) ≤ 0 by decide) (show (0 : Int) ≤ 1000000 by decide) hKl (Nat.le_trans hlx ky.size)).mono ?_
    rintro e w' ⟨rfl, T, W, rw, Q, V, base, Bb, bv, al, hLo, hT, hbase, hBl, hB', ob, oa, hBb, hSu, hlt1, hlt2, hlt3, -⟩
    refine ⟨rfl, _, ⟨T, base, W, rw, Q, V, Bb, bv, al, _, [], rfl, ⟨ob, hBb, hBl⟩, ⟨hSu, ⟨hlt1, hlt2, hlt3⟩, by have := ky.size; omega, by have := ky.size; omega⟩, rfl, (hbx.keep ky (fun y hy => by cases hy)).lo hLo⟩, hB', fun y cs hy => hLo.heap hy (by decide)⟩
  · rintro cs2 w2 ⟨T, base, W, rw, Q, V, Bb, bv, al, qf, L, rfl, -⟩
    exact ⟨rfl, rfl, rfl⟩
  · rintro e w' ⟨rfl, av', cs2, hP, hB', ho⟩
    obtain ⟨T, base, W, rw, Q, V, Bb, bv, al, qf, L, rfl, h2⟩ := hP
    have hcut : cutV x.g 0 2 c = .slice (some ⟨x.g, 5, none⟩) 2 (c - 1) := by unfold cutV; rw [if_neg (by omega)]
    rw [hcut] at hB'
    exact ⟨_, av', rfl, _, _, ⟨T, base, W, rw, Q, V, Bb, bv, al, qf, L, rfl, h2⟩, hB', ho⟩
set_option maxRecDepth 100000 in
theorem st2 (x : Pl25) (w : World) {c na : Nat} {av : Value} (h : Stg x (.slice (some ⟨x.g, 5, none⟩) 2 c) av false 1 1 0 na w) (hKl : x.lw ≤ x.K) (hlw : x.lw ≤ w.heap.size) (hc : 2 ≤ c) (hna : na ≤ 900) :
    Calls Tryz.prog 10 #[.pointer (some ⟨x.K, 0, none⟩), .int .i64 2] w fun e w' => ∃ v av, e = .returned (.tuple #[v, .int .i64 0]) ∧ Stg x (.slice (some ⟨x.g, 10, none⟩) 1 (c - 1)) av false 1 2 1 (na + 1) w' := by
  obtain ⟨cs, xs, hP, hB, ho⟩ := h
  have hPw := hP
  obtain ⟨T, base, W, rw, Q, V, Bb, bv, al, qf, L, rfl, -, -, -, hb⟩ := hPw
  obtain ⟨cur, hr, -, -, -, -, -, q0, q1, q2, q3, q4, -⟩ := hb.ops.row
  have hgK : x.g ≠ x.K := heap_ne hr hB (by simp)
  refine (step_told w (P := PO x (.slice (some ⟨x.g, 5, none⟩) 2 c) av false 1 2 1) (q := false) (av := av) (na := na) (m := 1) (x0 := 3) (x1 := 0) (x2 := 0) (x3 := 0) hlw hKl (fun cs => PO.cl x _ _ _ _ _ _ cs) hB rfl rfl rfl ⟨by decide, by decide⟩ hc (cell_is hr 5 q0) (cell_is hr 6 q1) (cell_is hr 7 q2) (cell_is hr 8 q3) (cell_is hr 9 q4) hgK ?_ ?_ ho hna).mono ?_
  · intro wx kx hBx
    have hx := (PO.cl x _ _ _ _ _ _ _).keep w wx _ hP kx (chgK hB).k66 (fun y hy => by rw [List.mem_singleton] at hy; omega)
    obtain ⟨T, base, W, rw, Q, V, Bb, bv, al, qf, L, hcs, hbg, hop, hL, hbx⟩ := hx
    rw [hcs] at hBx
    have hlx : x.lw ≤ wx.heap.size := Nat.le_trans hlw kx.size
    obtain ⟨gb, cb, rfl, g0⟩ := hbg.at_
    refine do_call wx (kind := 3) (h := 1) (nb := 1) (Or.inl rfl) hlx (fun cs => PO.cl x _ _ _ _ _ _ cs) (cell_is hBx 7 rfl) (by decide) g0 (cell_is hbg.2.1 0 rfl) (by decide) (fun wy ky => ?_)
    have hf : Fr base (dT x.d T W rw Q V) (begP (s00 x.lw)) (StoF x.lw (dT x.d T W rw Q V) (begS (s00 x.lw) T) (g00 x.lw x.ops)) := fr_sto hop.2.1 rfl rfl rfl rfl rfl
    obtain ⟨ce, hE, e0, e1⟩ := hbx.ops.put
    have hby := hbx.keep ky (fun y hy => by cases hy)
    refine (ccall_write wy (K := x.K) (Bb := Bb) (b := 1) (d := dT x.d T W rw Q V) (p := begP (s00 x.lw)) (ky.heap hBx (by simp)) rfl (ky.heap hbg.2.1 (by simp)) rfl hf (hop.1.keep hf ky) (ky.cell (cell_is hE 0 e0) (by simp)) (ky.cell (cell_is hE 1 e1) (by simp)) hby.ops.bs hby.ops.len (by decide) (by decide) (by omega)).mono ?_
    rintro e w' ⟨rfl, hO, v, hSu⟩
    have hLL : L = [] := List.length_eq_zero_iff.1 hL
    subst hLL
    refine ⟨rfl, _, ⟨T, base, W, rw, Q, V, Bb, _, al, _, _, rfl, ?_, ⟨hSu, hop.2⟩, rfl, hby.lo (Lo.of_ow hO hop.2.2.2)⟩, hO.heap (ky.heap hBx (by simp)) ⟨by decide, by decide, by decide⟩, fun y cs hy => hO.heap hy ⟨by decide, by decide, by decide⟩⟩
    obtain ⟨U, hU1, hU2⟩ := hO
    refine (hbg.keep ky (fun y hy => by cases hy)).keep hU1 (fun y hy _ cs t fr hh => ?_)
    rcases (hU2 y hy).2 cs t fr hh with rfl | rfl | rfl <;> exact ⟨by decide, by decide⟩
  · rintro cs2 w2 ⟨T, base, W, rw, Q, V, Bb, bv, al, qf, L, rfl, -⟩
    exact ⟨rfl, rfl, rfl⟩
  · rintro e w' ⟨rfl, av', cs2, hP, hB', ho⟩
    obtain ⟨T, base, W, rw, Q, V, Bb, bv, al, qf, L, rfl, h2⟩ := hP
    have hcut : cutV x.g 5 1 c = .slice (some ⟨x.g, 10, none⟩) 1 (c - 1) := by unfold cutV; rw [if_neg (by omega)]
    rw [hcut] at hB'
    exact ⟨_, av', rfl, _, _, ⟨T, base, W, rw, Q, V, Bb, bv, al, qf, L, rfl, h2⟩, hB', ho⟩
end Go.Proofs.YtliicpedddcfiaaGreat.C2
namespace Go.Proofs.YtliicpedddcfiaaGreat.C2
open Go.RowKit Go.Lib

/-- a schedule whose first client's transaction waits. -/
def PW (x : Pl25) (o av : Value) (q : Bool) (fr ev : Int) (cs : Array Value) (w : World) : Prop :=
  ∃ T W rw Q V Bb bv al qf L gq cq, cs = sch x.d.N x.d.P o bv av q al ev ∧ Beg1 w x.lw Bb bv 1 fr 0 ∧ Sto w x.lw (dT x.d T W rw Q V) (comS (begS (s00 x.lw) T) gq cq) (g00 x.lw x.ops) ∧ Wtx w (dT x.d T W rw Q V) (comS (begS (s00 x.lw) T) gq cq) gq cq 1 1 0 0 L qf ∧ x.lw ≤ T ∧ L.length = 1 ∧ Bas x.w0 x.lw x.C x.K x.R x.g x.E x.D x.cE x.cD x.r w
theorem PW.cl (x : Pl25) (o av : Value) (q : Bool) (fr ev : Int) (cs : Array Value) : Cl x.lw (PW x o av q fr ev cs) := ⟨fun a b S h hc ht hl => by
  obtain ⟨T, W, rw, Q, V, Bb, bv, al, qf, L, gq, cq, h1, h2, h3, h4, h5, h6, h7⟩ := h
  exact ⟨T, W, rw, Q, V, Bb, bv, al, qf, L, gq, cq, h1, h2.keep hc (beg_ne ht (by decide)), h3.tp149 hc ht, h4.keepA hc (ht.av (by decide)) (ht.map h4.buf.2), h5, h6, h7.tp hc ht (by decide) hl⟩⟩
def StgW (x : Pl25) (o av : Value) (q : Bool) (fr ev : Int) (na : Nat) (w : World) : Prop := ∃ cs xs, PW x o av q fr ev cs w ∧ SchB w x.K cs ∧ w.ownsRow x.lw 39 5 av na xs
set_option maxRecDepth 100000 in
theorem st3 (x : Pl25) (w : World) {c na : Nat} {av : Value} (h : Stg x (.slice (some ⟨x.g, 10, none⟩) 1 c) av false 1 2 1 na w) (hKl : x.lw ≤ x.K) (hlw : x.lw ≤ w.heap.size) (hc : 1 ≤ c) :
    Calls Tryz.prog 10 #[.pointer (some ⟨x.K, 0, none⟩), .int .i64 2] w fun e w' => e = .returned (.tuple #[.agg #[.int .i64 0, .int .i64 0, .int .i64 0, .int .i64 0, .slice none 0 0], .int .i64 16]) ∧ StgW x (.slice (some ⟨x.g, 10, none⟩) 1 c) av true 1 3 na w' := by
  obtain ⟨cs, xs, hP, hB, ho⟩ := h
  have hPw := hP
  obtain ⟨T, base, W, rw, Q, V, Bb, bv, al, qf, L, rfl, -, -, -, hb⟩ := hPw
  obtain ⟨cur, hr, -, -, -, -, -, -, -, -, -, -, q0, q1, q2, q3, q4⟩ := hb.ops.row
  have hgK : x.g ≠ x.K := heap_ne hr hB (by simp)
  refine (step_wait w (P := PW x (.slice (some ⟨x.g, 10, none⟩) 1 c) av false 1 3) (q := false) (m := 0) (x0 := 0) (x1 := 0) (x2 := 0) (x3 := 0) hlw hKl (fun cs => PW.cl x _ _ _ _ _ cs) hB rfl rfl rfl ⟨by decide, by decide⟩ hc (cell_is hr 10 q0) (cell_is hr 11 q1) (cell_is hr 12 q2) (cell_is hr 13 q3) (cell_is hr 14 q4) hgK ?_ ?_).mono ?_
  · intro wx kx hBx
    have hx := (PO.cl x _ _ _ _ _ _ _).keep w wx _ hP kx (chgK hB).k66 (fun y hy => by rw [List.mem_singleton] at hy; omega)
    obtain ⟨T, base, W, rw, Q, V, Bb, bv, al, qf, L, hcs, hbg, hop, hL, hbx⟩ := hx
    rw [hcs] at hBx
    have hlx : x.lw ≤ wx.heap.size := Nat.le_trans hlw kx.size
    obtain ⟨gb, cb, rfl, g0⟩ := hbg.at_
    refine do_call wx (kind := 4) (h := 1) (nb := 1) (Or.inr rfl) hlx (fun cs => PW.cl x _ _ _ _ _ cs) (cell_is hBx 7 rfl) (by decide) g0 (cell_is hbg.2.1 0 rfl) (by decide) (fun wy ky => ?_)
    refine ccall_c wy (Nat.le_trans hlx ky.size) (fun cs => PW.cl x _ _ _ _ _ cs) (fun wz kz => ?_)
    have kyz := ky.then kz
    have hf : Fr base (dT x.d T W rw Q V) (begP (s00 x.lw)) (StoF x.lw (dT x.d T W rw Q V) (begS (s00 x.lw) T) (g00 x.lw x.ops)) := fr_sto hop.2.1 rfl rfl rfl rfl rfl
    have hbz := hbx.keep kyz (fun y hy => by cases hy)
    have hBz := kyz.heap hBx (by simp)
    have hbgz := hbg.keep kyz (fun y hy => by cases hy)
    refine (commit_ask wz (k := 1) (n := 0) (K := x.K) (Bb := Bb) (d := dT x.d T W rw Q V) (p := begP (s00 x.lw)) hBz rfl rfl hbgz.2.1 rfl hf (hop.1.keep hf kyz) rfl (Nat.le_trans hlx kyz.size) hop.2.2.1 (fun wv kv => scommit_sto wv (loq := x.lw) (n := 0) (k := 1) hf (hop.1.keep hf (kyz.then kv)) rfl (World.ownsRow_nil _ _ _ _) (Nat.le_trans hlx (kyz.then kv).size) (Nat.le_refl _) rfl ⟨fun p hp => (by cases hp), fun b y hy => (by cases hy)⟩ rfl (show (0 : Int) < 1099511627776 by decide) (show (0 : Int) ≤ 0 by decide) (by omega) (by omega) (by decide) rfl rfl hop.2.2.1)).mono ?_
    rintro e w' ⟨rfl, gq, cq, hS', hW', hcs'⟩
    have hLo := Lo.of_cs hcs'
    obtain ⟨U, hU1, hU2⟩ := hcs'
    refine ⟨rfl, _, ⟨T, W, rw, Q, V, Bb, _, al, _, L, gq, cq, rfl, ?_, hS', hW', hop.2.2.1, hL, hbz.lo hLo⟩, hU1.heap hBz (fun hm => ?_), fun y cs hy => hLo.heap hy (by decide)⟩
    · refine hbgz.keep hU1 (fun y hy hl cs t fr hh => ?_)
      exact (by decide : ∀ u ∈ ([105, 184, 212, 237, 247, 93, 97, 34, 3, 240, 159] : List Nat), u ≠ 83 ∧ u ≠ 85) t ((hU2 y hy hl).2 cs t fr hh)
    · exact (by decide : (72 : Nat) ∉ ([105, 184, 212, 237, 247, 93, 97, 34, 3, 240, 159] : List Nat)) ((hU2 x.K hm (heap_lt hBz)).2 _ _ _ hBz)
  · rintro cs2 w2 ⟨T, W, rw, Q, V, Bb, bv, al, qf, L, gq, cq, rfl, -⟩
    rfl
  · rintro e w' ⟨rfl, cs2, hP, hB', h66⟩
    obtain ⟨T, W, rw, Q, V, Bb, bv, al, qf, L, gq, cq, rfl, h2⟩ := hP
    exact ⟨rfl, _, xs, ⟨T, W, rw, Q, V, Bb, bv, al, qf, L, gq, cq, rfl, h2⟩, hB', own_k66 ho h66⟩
end Go.Proofs.YtliicpedddcfiaaGreat.C2
namespace Go.Proofs.YtliicpedddcfiaaGreat.C2
open Go.RowKit Go.Lib

/-- a client's ops that wait. -/
def OpsA (w : World) (lw : Nat) (o : Value) (ss : List OpS) : Prop := ∃ xs, RowO w lw 33 5 o ss.length xs ∧ OpsL w lw ss xs
theorem OpsA.keepT {w w' : World} {S : List Nat} {lw : Nat} {o : Value} {ss : List OpS} (h : OpsA w lw o ss) (hc : Chg S w w') (hS : ∀ x ∈ S, x < w.heap.size → ∀ cs t fr, w.heap[x]? = some (.cells cs t fr) → t ∉ [33, 37, 5]) : OpsA w' lw o ss := by
  obtain ⟨xs, h1, h2⟩ := h
  refine ⟨xs, h1.chgB hc (fun g hg hm => ?_), h2.keepT hc (fun x hx hl cs t fr hh => ?_)⟩
  · obtain ⟨-, cur, hh⟩ := h1.elem hg
    exact hS g hm (heap_lt hh) _ _ _ hh (by decide)
  · have := hS x hx hl cs t fr hh
    simp at this
    exact ⟨this.2.1, this.2.2⟩
theorem OpsA.tp {w w' : World} {S ts : List Nat} {lw : Nat} {o : Value} {ss : List OpS} (h : OpsA w lw o ss) (hc : Chg S w w') (ht : Tp w S ts) (hts : ∀ t ∈ ts, t ∉ [33, 37, 5]) : OpsA w' lw o ss :=
  h.keepT hc (fun x hx _ cs t fr hh => by
    obtain ⟨cs2, t2, h2, h3⟩ := ht x hx
    rw [h2] at hh
    cases hh
    exact hts _ h3)
theorem OpsA.keep0 {w w' : World} {lw : Nat} {o : Value} {ss : List OpS} (h : OpsA w lw o ss) (hc : Chg [] w w') : OpsA w' lw o ss := h.keepT hc (fun x hx => by cases hx)
theorem OpsA.lo {w w' : World} {lw lo : Nat} {o : Value} {ss : List OpS} (h : OpsA w lw o ss) (hc : Lo lo w w') : OpsA w' lw o ss := by
  obtain ⟨U, h1, h2⟩ := hc
  refine h.keepT h1 (fun x hx hl cs t fr hh hm => (h2 x hx hl).2 cs t fr hh ?_)
  revert hm
  simp only [List.mem_cons, List.not_mem_nil, or_false]
  rintro (rfl | rfl | rfl) <;> simp
theorem OpsA.low {w : World} {lw lw' : Nat} {o : Value} {ss : List OpS} (h : OpsA w lw o ss) (hl : lw' ≤ lw) : OpsA w lw' o ss := by
  obtain ⟨xs, h1, h2⟩ := h
  refine ⟨xs, ⟨h1.1, ?_⟩, ?_⟩
  · rcases h1.2 with h | ⟨g, o', cap, cur, e, hA, hg, h3⟩
    · exact Or.inl h
    · exact Or.inr ⟨g, o', cap, cur, e, by omega, hg, h3⟩
  · clear h1
    induction ss generalizing xs with
    | nil => exact h2
    | cons s ss ih =>
      obtain ⟨u, ys, e1, e2, e3⟩ := h2
      exact ⟨u, ys, e1, e2.low hl, ih _ e3⟩
theorem OpsA.nil (w : World) (lw : Nat) : OpsA w lw (.slice none 0 0) [] := ⟨[], RowO.of_own (World.ownsRow_nil _ _ _ _), rfl⟩
/-- the first op's cells. -/
theorem OpsA.head {w : World} {lw : Nat} {o : Value} {s : OpS} {ss : List OpS} (h : OpsA w lw o (s :: ss)) :
    ∃ g off c pp pn pc, o = .slice (some ⟨g, off, none⟩) (ss.length + 1) c ∧ ss.length + 1 ≤ c ∧ (∃ cur, w.heap[g]? = some (.cells cur 33 (0, 0))) ∧
      w.cell? ⟨g, off, none⟩ = some (.int .i64 s.k) ∧ w.cell? ⟨g, off + 1, none⟩ = some (.int .i64 s.h) ∧ w.cell? ⟨g, off + 2, none⟩ = some (.int .i64 s.a) ∧ w.cell? ⟨g, off + 3, none⟩ = some (.int .i64 s.l) ∧ w.cell? ⟨g, off + 4, none⟩ = some (.slice pp pn pc) ∧
      OpV w lw s [.int .i64 s.k, .int .i64 s.h, .int .i64 s.a, .int .i64 s.l, .slice pp pn pc] := by
  obtain ⟨xs, h1, u, ys, rfl, h2, h3⟩ := h
  obtain ⟨g, off, c, e, hc, -, hg, hcell⟩ := h1.at_ (by simp)
  obtain ⟨pp, pn, pc, rfl⟩ := h2.form
  exact ⟨g, off, c, pp, pn, pc, e, by simpa using hc, hg, hcell 0 _ rfl, hcell 1 _ rfl, hcell 2 _ rfl, hcell 3 _ rfl, hcell 4 _ rfl, h2⟩
/-- the first op is taken away. -/
theorem OpsA.cut {w : World} {lw g off c : Nat} {s : OpS} {ss : List OpS} (h : OpsA w lw (.slice (some ⟨g, off, none⟩) (ss.length + 1) c) (s :: ss)) : OpsA w lw (cutV g off ss.length c) ss := by
  obtain ⟨xs, h1, u, ys, rfl, h2, h3⟩ := h
  have hu := h2.len
  have hl := h1.1
  rw [List.length_append, hu, List.length_cons, Nat.add_mul] at hl
  rcases h1.2 with ⟨e, _⟩ | ⟨g', o', cap, cur, e, hb, hg, hn, hmax, hcs, hx⟩
  · cases e
  · cases e
    refine ⟨ys, ⟨by omega, Or.inr ?_⟩, h3⟩
    unfold cutV
    by_cases h1c : c = 1
    · subst h1c
      have h0 : ss.length = 0 := by rw [List.length_cons] at hn; omega
      exact ⟨g, off, 0, cur, by simp, hb, hg, by omega, by omega, by omega, fun j hj => by omega⟩
    · refine ⟨g, off + 5, c - 1, cur, by rw [if_neg h1c], hb, hg, by rw [List.length_cons] at hn; omega, by omega, ?_, fun j hj => ?_⟩
      · have : 1 ≤ c := by rw [List.length_cons] at hn; omega
        obtain ⟨k, rfl⟩ : ∃ k, c = k + 1 := ⟨c - 1, by omega⟩
        rw [Nat.add_mul] at hcs
        show off + 5 + (k + 1 - 1) * 5 ≤ cur.size
        rw [Nat.add_sub_cancel]
        omega
      · have := hx (5 + j) (by simp; omega)
        rw [← Nat.add_assoc] at this
        rw [this, List.getElem?_append_right (by omega), hu, Nat.add_sub_cancel_left]
/-- one begin, in a client's row and in the row of all. -/
structure Beg2 (w : World) (lw Bb : Nat) (bv al : Value) (bc : Array Value) : Prop where
  ob : w.ownsRow lw 83 1 bv 1 [.pointer (some ⟨Bb, 0, none⟩)]
  oa : w.ownsRow lw 83 1 al 1 [.pointer (some ⟨Bb, 0, none⟩)]
  ne : ∀ x, bv.ownBlock = some x → al.ownBlock ≠ some x
  blk : w.heap[Bb]? = some (.cells bc 85 (0, 0))
  low : lw ≤ Bb
theorem Beg2.keep {w w' : World} {S : List Nat} {lw Bb : Nat} {bv al : Value} {bc : Array Value} (h : Beg2 w lw Bb bv al bc) (hc : Chg S w w') (hS : ∀ x ∈ S, x < w.heap.size → ∀ cs t fr, w.heap[x]? = some (.cells cs t fr) → t ≠ 83 ∧ t ≠ 85) : Beg2 w' lw Bb bv al bc := by
  refine ⟨own_chgB h.ob hc (fun g hg hm => ?_), own_chgB h.oa hc (fun g hg hm => ?_), h.ne, hc.heap h.blk (fun hm => (hS Bb hm (heap_lt h.blk) _ _ _ h.blk).2 rfl), h.low⟩
  · obtain ⟨-, cur, hh⟩ := own_elem h.ob hg
    exact (hS g hm (heap_lt hh) _ _ _ hh).1 rfl
  · obtain ⟨-, cur, hh⟩ := own_elem h.oa hg
    exact (hS g hm (heap_lt hh) _ _ _ hh).1 rfl
theorem Beg2.tp {w w' : World} {S ts : List Nat} {lw Bb : Nat} {bv al : Value} {bc : Array Value} (h : Beg2 w lw Bb bv al bc) (hc : Chg S w w') (ht : Tp w S ts) (hts : ∀ t ∈ ts, t ≠ 83 ∧ t ≠ 85) : Beg2 w' lw Bb bv al bc :=
  h.keep hc (fun x hx _ cs t fr hh => by
    obtain ⟨cs2, t2, h2, h3⟩ := ht x hx
    rw [h2] at hh
    cases hh
    exact hts _ h3)
theorem Beg2.one {w : World} {lw Bb : Nat} {bv al : Value} {bc : Array Value} (h : Beg2 w lw Bb bv al bc) : (∃ g c, bv = .slice (some ⟨g, 0, none⟩) 1 c ∧ w.cell? ⟨g, 0, none⟩ = some (.pointer (some ⟨Bb, 0, none⟩))) ∧ ∃ g c, al = .slice (some ⟨g, 0, none⟩) 1 c ∧ w.cell? ⟨g, 0, none⟩ = some (.pointer (some ⟨Bb, 0, none⟩)) := by
  refine ⟨?_, ?_⟩
  · rcases h.ob.2 with ⟨e, h0⟩ | ⟨g, cap, cur, e, hA, hg, hc1, hc2, hc3, ht⟩
    · cases h0
    · refine ⟨g, cap, e, cell_is hg 0 ?_⟩
      have : (cur.toList.take (1 * 1))[0]? = some (.pointer (some ⟨Bb, 0, none⟩)) := by rw [ht]; rfl
      rwa [List.getElem?_take_of_lt (by omega), Array.getElem?_toList] at this
  · rcases h.oa.2 with ⟨e, h0⟩ | ⟨g, cap, cur, e, hA, hg, hc1, hc2, hc3, ht⟩
    · cases h0
    · refine ⟨g, cap, e, cell_is hg 0 ?_⟩
      have : (cur.toList.take (1 * 1))[0]? = some (.pointer (some ⟨Bb, 0, none⟩)) := by rw [ht]; rfl
      rwa [List.getElem?_take_of_lt (by omega), Array.getElem?_toList] at this
/-- the places: the start, below what nothing changes, the schedule, the store's blocks. -/
structure Pl where
  w0 : World
  lw : Nat
  K : Nat
  d : Ids
  ops : Int
/-- what stands beside: how far it is from the start, the ops that wait. -/
structure Bs2 (x : Pl) (o : Value) (ss : List OpS) (w : World) : Prop where
  up : Up x.lw x.w0 w
  ops : OpsA w x.lw o ss
theorem Bs2.tp {x : Pl} {o : Value} {ss : List OpS} {w w' : World} {S ts : List Nat} (h : Bs2 x o ss w) (hc : Chg S w w') (ht : Tp w S ts) (hts : ∀ t ∈ ts, t ∉ [33, 37, 5]) (hl : ∀ y ∈ S, x.lw ≤ y) : Bs2 x o ss w' :=
  ⟨h.up.then hc (fun y hy _ => hl y hy), h.ops.tp hc ht hts⟩
theorem Bs2.lo {x : Pl} {o : Value} {ss : List OpS} {w w' : World} (h : Bs2 x o ss w) (hc : Lo x.lw w w') : Bs2 x o ss w' := ⟨h.up.trans (Up.of_lo hc), h.ops.lo hc⟩
theorem Bs2.keep0 {x : Pl} {o : Value} {ss : List OpS} {w w' : World} (h : Bs2 x o ss w) (hc : Chg [] w w') : Bs2 x o ss w' := ⟨h.up.then hc (fun y hy => by cases hy), h.ops.keep0 hc⟩
theorem Opn.keep2 {w w' : World} {S ts : List Nat} {lw : Nat} {d : Ids} {ops : Int} {T base W rw Q V : Nat} {q : Int → List UInt8} {L : List (Int × Value)} (h : Opn w lw d ops T base W rw Q V q L) (hc : Chg S w w') (tp : Tp w S ts) (hts : ∀ t ∈ ts, t ∈ [72, 39, 85, 83, 33]) : Opn w' lw d ops T base W rw Q V q L := by
  obtain ⟨hS, hr⟩ := h
  have hSto : Sto w lw (dT d T W rw Q V) (begS (s00 lw) T) (g00 lw ops) := hS.env
  have hd : ∀ t ∈ ts, t ∉ [105, 159, 93, 94, 97, 34, 5, 184, 237, 247, 240] := fun t ht => (by decide : ∀ u ∈ ([72, 39, 85, 83, 33] : List Nat), u ∉ [105, 159, 93, 94, 97, 34, 5, 184, 237, 247, 240]) t (hts t ht)
  have hSto2 := hSto.keepA hc (tp.av (fun t ht hm => hd t ht (by revert hm; simp only [List.mem_cons, List.not_mem_nil, or_false]; omega))) (tp.map hSto.mx.ver.m) (tp.map hSto.mx.book.2) (tp.map hSto.mx.map)
  exact ⟨hS.keepA hc (tp.av (fun t ht => (by decide : ∀ u ∈ ([72, 39, 85, 83, 33] : List Nat), u ∉ _) t (hts t ht))) (tp.map hS.buf.2) hSto2, hr⟩
/-- a schedule whose second client has a transaction that is open. -/
def PO2 (x : Pl) (o av : Value) (ss : List OpS) (q : Bool) (ev : Int) (k : Nat) (cs : Array Value) (w : World) : Prop :=
  ∃ T base W rw Q V Bb bv al qf L, cs = sch x.d.N x.d.P o bv av q al ev ∧ Beg2 w x.lw Bb bv al (begC 1 1 0) ∧ Opn w x.lw x.d x.ops T base W rw Q V qf L ∧ L.length = k ∧ Bs2 x o ss w
theorem PO2.cl (x : Pl) (o av : Value) (ss : List OpS) (q : Bool) (ev : Int) (k : Nat) (cs : Array Value) : Cl x.lw (PO2 x o av ss q ev k cs) := ⟨fun a b S h hc ht hl => by
  obtain ⟨T, base, W, rw, Q, V, Bb, bv, al, qf, L, h1, h2, h3, h4, h5⟩ := h
  exact ⟨T, base, W, rw, Q, V, Bb, bv, al, qf, L, h1, h2.tp hc ht (by decide), h3.keep hc ht (by decide), h4, h5.tp hc ht (by decide) hl⟩⟩
/-- a stage: the schedule's cells, the answers' row. -/
def Stg2 (x : Pl) (ss : List OpS) (q : Bool) (ev : Int) (k na : Nat) (w : World) : Prop := ∃ o av cs xs, PO2 x o av ss q ev k cs w ∧ SchB w x.K cs ∧ w.ownsRow x.lw 39 5 av na xs
/-- a schedule whose second client's transaction waits. -/
def PW2 (x : Pl) (o av : Value) (ss : List OpS) (q : Bool) (ev : Int) (cs : Array Value) (w : World) : Prop :=
  ∃ T base W rw Q V Bb bv al qf L gq cq, cs = sch x.d.N x.d.P o bv av q al ev ∧ Beg2 w x.lw Bb bv al (begC 1 1 0) ∧ Sto w x.lw (dT x.d T W rw Q V) (comS (begS (s00 x.lw) T) gq cq) (g00 x.lw x.ops) ∧ Wtx w (dT x.d T W rw Q V) (comS (begS (s00 x.lw) T) gq cq) gq cq 1 1 0 0 L qf ∧ x.lw ≤ T ∧ L.length = 1 ∧ VwT w base Q x.d.X W V 0 0 ∧ Bs2 x o ss w
end Go.Proofs.YtliicpedddcfiaaGreat.C2
