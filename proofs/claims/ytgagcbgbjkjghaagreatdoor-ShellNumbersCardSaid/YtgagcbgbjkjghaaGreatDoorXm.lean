/- Lemmas and walks: Walks: the shell says a line. Walks: numbers of words. Walks: the shell says ok, or an error's number; which numbers are a client's. Walks: the shell lets a client do its first op; and so on till there is none, or it waits. Walks: the shell's lines of one number: a client runs till it waits; the power is cut. Walks: the shell's lines. Walks: ops are handed to a schedule that waits; what stands in memory is kept where the shell says a line. Walks: what a schedule's store says of itself; the power is cut. Walks: the shell tells how its store is; lines of one word, lines that are none, and the cut. The plain laws of a script's lines: how many there are. No program in this text. Walks: the shell's cut; a script is played, line by line. The plain laws of the document's own scripts: their lines and words. No walk in this text. Walks: a line that hands an op to the schedule. Walks: the first client's three ops, step by step, where the shell tells of each. Walks: what the document fixes of the shell: the first script, and a line that is none. -/
import Derived.Lib.AppendStr
import Derived.Deep.RegionLaw
import Derived.Lib.Bytealg
import Derived.Test.YtgagcbgbjkjghaaGreatDoorXb
import Derived.Test.YtgagcbgbjkjghaaGreatDoorXc
import Derived.Test.YtgagcbgbjkjghaaGreatDoorXd
import Derived.Test.YtgagcbgbjkjghaaGreatDoorXe
import Derived.Test.YtgagcbgbjkjghaaGreatDoorXg
import Derived.Test.YtgagcbgbjkjghaaGreatDoorXi
import Derived.Test.YtgagcbgbjkjghaaGreatDoorXk
import Derived.Test.YtgagcbgbjkjghaaGreatDoorXl
namespace Go.Proofs.YtgagcbgbjkjghaaGreatDoor
open Go.RowKit Go.Lib

/-- block S is a shell: block K is its schedule, l is what was answered so far. -/
def Sh (w : World) (S K lo : Nat) (ov : Value) (l : List UInt8) : Prop :=
  w.heap[S]? = some (.cells #[.pointer (some ⟨K, 0, none⟩), ov] 37 (0, 0)) ∧ w.ownsRow lo 5 1 ov l.length (Lib.byteCells l)
theorem ty23b : Tryz.prog.underlying 23 = some (.slice 5) := by kernel_rfl
theorem ty9b : Tryz.prog.underlying 9 = some .string := by kernel_rfl
theorem ty5b : Tryz.prog.underlying 5 = some (.int .u8) := by kernel_rfl
theorem inf5b : (Tryz.prog.info? 5).map (fun i => (i.zero, i.size, i.bytes)) = some (some (.int .u8 0), 1, 1) := by kernel_rfl
theorem strCells_bytes (r : List UInt8) : Go.Lib.strCells ⟨r.toArray⟩ = Lib.byteCells r := by simp [Go.Lib.strCells, Lib.byteCells]
/-- a string's bytes are put behind a row of bytes. -/
theorem append_str_run (w : World) (ty : TypeId) (lo : Nat) (v : Value) (l r : List UInt8) (hown : w.ownsRow lo 5 1 v l.length (Lib.byteCells l)) (hn : l.length + r.length ≤ 100000000) (hlo : lo ≤ w.heap.size) :
    ∃ v' w', (Builtin.append_ #[23, 9] ty #[v, .string ⟨r.toArray⟩]).run Tryz.prog w = .ok v' w' ∧ w'.ownsRow lo 5 1 v' (l.length + r.length) (Lib.byteCells (l ++ r)) ∧ Chg v.ownBlock.toList w w' := by
  obtain ⟨i, hi0, hz, hz1, hz2⟩ := info_parts inf5b
  have hsz : (⟨r.toArray⟩ : ByteArray).size = r.length := by show r.toArray.size = _; simp
  obtain ⟨v', w', h1, h2, h3, -⟩ := run_append_own_string (P := Tryz.prog) (w := w) lo 23 9 ty 5 i ty23b ty9b hi0 hz hz1 hz2 v l.length (Lib.byteCells l) hown ⟨r.toArray⟩ (by rw [hsz]; unfold maxLen; omega) (by rw [hsz]; omega) hlo
  rw [hsz, strCells_bytes, ← byteCells_app] at h2
  exact ⟨v', w', h1, h2, Chg.of_grownO h3⟩
theorem step_append_str {ops : Array Oper} {o : Oper} {a : Act} {w : World} {K : Act → World → Prop} {Q : Exit → Act → World → Prop} {E : Prop} (hgd : o.guard = none) (s x : Operand)
    (ho : o.op = .call { callee := .builtin .append, args := #[s, x], argTypes := #[23, 9] }) (lo : Nat) (v : Value) (l r : List UInt8) (hs : a.eval s = v) (hx : a.eval x = .string ⟨r.toArray⟩) (hown : w.ownsRow lo 5 1 v l.length (Lib.byteCells l)) (hn : l.length + r.length ≤ 100000000) (hlo : lo ≤ w.heap.size)
    (h : ∀ v' w', w'.ownsRow lo 5 1 v' (l.length + r.length) (Lib.byteCells (l ++ r)) → Chg v.ownBlock.toList w w' → K (a.put o.dst v') w') :
    if Region.wanted o (yielded ops a.tmps) = true then Oper.wp Tryz.prog o a w K Q else E := by
  obtain ⟨v', w', h1, h2, h3⟩ := append_str_run w o.type lo v l r hown hn hlo
  exact step_append_run hgd s x 23 9 ho v _ hs hx v' w' h1 (h v' w' h2 h3)
theorem own_ne37 {w : World} {lo S n : Nat} {v : Value} {xs : List Value} {cs : Array Value} (h : w.ownsRow lo 5 1 v n xs) (hS : w.heap[S]? = some (.cells cs 37 (0, 0))) : S ∉ v.ownBlock.toList := own_not h hS (by decide)
theorem own_ne37' {w : World} {lo S n : Nat} {v : Value} {xs : List Value} {cs : Array Value} (h : w.ownsRow lo 5 1 v n xs) (hS : w.heap[S]? = some (.cells cs 37 (0, 0))) : ∀ g, v.ownBlock = some g → g ∉ [S] := fun g hg hm => by
  rw [List.mem_singleton] at hm
  subst hm
  obtain ⟨-, cur, hh⟩ := own_elem h hg
  rw [hS] at hh
  cases hh
/-- what a line that is said changes: the shell, and bytes that begin with c. -/
def SayC (lo S : Nat) (c : UInt8) (w w' : World) : Prop := ∃ U, Chg U w w' ∧ ∀ x ∈ U, x < w.heap.size → x = S ∨ (lo ≤ x ∧ ∃ cs, w.heap[x]? = some (.cells cs 5 (0, 0)) ∧ cs[0]? = some (.int .u8 c.toNat))
theorem SayC.pre {lo S : Nat} {c : UInt8} {a b d : World} (k : Chg [] a b) (h : SayC lo S c b d) : SayC lo S c a d := by
  obtain ⟨U, h1, h2⟩ := h
  refine ⟨U, (k.mono (fun x hx _ => by cases hx)).then h1, fun x hx hl => ?_⟩
  rcases h2 x hx (Nat.lt_of_lt_of_le hl k.size) with e | ⟨e1, cs, e2, e3⟩
  · exact Or.inl e
  · exact Or.inr ⟨e1, cs, by rw [← k.block x hl (by simp)]; exact e2, e3⟩
theorem SayC.post {lo S : Nat} {c : UInt8} {a b d : World} (h : SayC lo S c a b) (k : Chg [] b d) : SayC lo S c a d := by
  obtain ⟨U, h1, h2⟩ := h
  exact ⟨U, h1.trans k (fun x hx => by cases hx), h2⟩
theorem own_head {w : World} {lo n g : Nat} {v : Value} {c : UInt8} {l : List UInt8} (h : w.ownsRow lo 5 1 v n (Lib.byteCells (c :: l))) (hg : v.ownBlock = some g) : lo ≤ g ∧ ∃ cs, w.heap[g]? = some (.cells cs 5 (0, 0)) ∧ cs[0]? = some (.int .u8 c.toNat) := by
  have hn : n = l.length + 1 := by have := h.1; simp [Lib.byteCells] at this; omega
  rcases h.2 with ⟨rfl, h0⟩ | ⟨g', cap, cur, rfl, hA, hh, h1, h2, h3, ht⟩
  · cases hg
  · cases hg
    refine ⟨hA, cur, hh, ?_⟩
    have : (cur.toList.take (n * 1))[0]? = some (.int .u8 c.toNat) := by rw [ht]; rfl
    rwa [List.getElem?_take_of_lt (by omega), Array.getElem?_toList] at this
theorem SayC.two {lo S : Nat} {c : UInt8} {w w3 w6 : World} {ov v : Value} {n n' : Nat} {l r : List UInt8} (k1 : Chg (S :: ov.ownBlock.toList) w w3) (k2 : Chg (S :: v.ownBlock.toList) w3 w6) (o1 : w.ownsRow lo 5 1 ov n (Lib.byteCells l)) (o2 : w3.ownsRow lo 5 1 v n' (Lib.byteCells (c :: r))) (hl : l = [] ∧ ov = .slice none 0 0 ∨ ∃ l', l = c :: l') : SayC lo S c w w6 := by
  refine ⟨(S :: ov.ownBlock.toList) ++ (S :: v.ownBlock.toList), (k1.mono (fun x hx _ => List.mem_append_left _ hx)).then (k2.mono (fun x hx _ => List.mem_append_right _ hx)), fun x hx hlt => ?_⟩
  by_cases h1 : x ∈ S :: ov.ownBlock.toList
  · rcases List.mem_cons.1 h1 with e | h2
    · exact Or.inl e
    · have h3 : ov.ownBlock = some x := by simpa using h2
      rcases hl with ⟨-, rfl⟩ | ⟨l', rfl⟩
      · cases h3
      · exact Or.inr (own_head o1 h3)
  · rcases List.mem_append.1 hx with h2 | h2
    · exact absurd h2 h1
    · rcases List.mem_cons.1 h2 with e | h2
      · exact Or.inl e
      · obtain ⟨e1, cs, e2, e3⟩ := own_head o2 (show v.ownBlock = some x by simpa using h2)
        exact Or.inr ⟨e1, cs, by rw [← k1.block x hlt h1]; exact e2, e3⟩
set_option maxRecDepth 100000 in
set_option maxHeartbeats 2000000 in
theorem say_any (w : World) {S K lo base n : Nat} {ov v : Value} {l : List UInt8} {ws : List (List UInt8)} (h : Sh w S K lo ov l) (hown : w.ownsRow base 9 1 v n (strCells ws)) (hne : ws ≠ []) (hn : n ≤ 1000000) (hj : (Lib.join ws [32]).length ≤ 1000000) (hl : l.length ≤ 1000000) (hlo : lo ≤ w.heap.size) {c : UInt8} {r0 : List UInt8} (hc : l ++ Lib.join ws [32] = c :: r0) (hl0 : l = [] → ov = .slice none 0 0) :
    Calls Tryz.prog 16 #[.pointer (some ⟨S, 0, none⟩), v] w fun e w' => e = .returned (.tuple #[]) ∧ ∃ ov', Sh w' S K lo ov' (l ++ (Lib.join ws [32] ++ [10])) ∧ SayC lo S c w w' := by
  obtain ⟨hS, ho⟩ := h
  obtain ⟨pv, cv, rfl, hcv⟩ := own_form ho
  obtain ⟨pw, cw, rfl, hcw⟩ := own_form hown
  have s1 : w.cell? ⟨S, 1, none⟩ = some (.slice pv l.length cv) := cell_is hS 1 rfl
  have s1d : w.drew.cell? ⟨S, 1, none⟩ = some (.slice pv l.length cv) := s1
  have kd : Chg [] w w.drew := (Chg.refl [] w).drew
  have HJ := Lib.hid (Scr.join_any (own_keep hown kd.below0) hne (by omega) (by omega))
  generalize hr : Lib.join ws [32] = r at *
  have hSd := kd.heap hS (by simp)
  have hod := own_keep ho kd.below0
  have HN := Lib.hid (And.intro hj (And.intro hl hlo))
  have HX := Lib.hid (And.intro kd (And.intro hSd hod))
  have HC := Lib.hid (And.intro hc (And.intro hl0 ho))
  clear hown hne hn hj hl hcv hcw hr hS ho kd hSd hod hlo hc hl0
  go_enter Tryz.func16, Tryz.ntmps16
  go_wp2_with fail
  go_region_law
    (first
      | (go_simp; go_at_call 34; refine HJ.out.mono ?_; rintro e w1 ⟨rfl, hb1⟩; have k1 : Chg [] w.drew w1 := Chg.of_below hb1; have t1 := k1.cell s1d (by simp))
      | (refine step_append_str rfl (.tmp 8) (.tmp 10) rfl lo (.slice pv l.length cv) l r rfl rfl (own_keep HX.out.2.2 k1.below0) (by have := HN.out; omega) (by have h1 := k1.size; have h2 := HN.out.2.2; have h3 : w.drew.heap.size = w.heap.size := rfl; omega) ?_; intro v2 w2 o2 k2; obtain ⟨p2, c2, rfl, hc2⟩ := own_form o2; have S2 := k2.heap (k1.heap HX.out.2.1 (by simp)) (own_ne37 (own_keep HX.out.2.2 k1.below0) (k1.heap HX.out.2.1 (by simp))); have t2 := cell_is S2 1 rfl; have f2 := unfrozen S2 1))
  all_goals
    have k3 : Chg [S] w2 (w2.setCell ⟨S, 1, none⟩ (.slice p2 (l.length + r.length) c2)) := Chg.set _ _ _ _
    have S3 : (w2.setCell ⟨S, 1, none⟩ (.slice p2 (l.length + r.length) c2)).heap[S]? = some (.cells #[.pointer (some ⟨K, 0, none⟩), .slice p2 (l.length + r.length) c2] 37 (0, 0)) := heap_set S2 1 _ rfl
    have o3 : (w2.setCell ⟨S, 1, none⟩ (.slice p2 (l.length + r.length) c2)).ownsRow lo 5 1 (.slice p2 (l.length + r.length) c2) (l.length + r.length) (Lib.byteCells (l ++ r)) := own_chgB o2 k3 (own_ne37' o2 S2)
    generalize w2.setCell ⟨S, 1, none⟩ (.slice p2 (l.length + r.length) c2) = w3 at *
    have kk : Chg (S :: (Value.slice pv l.length cv).ownBlock.toList) w w3 := (((HX.out.1.then k1).mono (fun x hx _ => by cases hx)).then (k2.mono (fun x hx _ => List.mem_cons_of_mem _ hx))).then (k3.mono (fun x hx _ => by simp at hx; simp [hx]))
    have hl3 : lo ≤ w3.heap.size := Nat.le_trans HN.out.2.2 kk.size
    have hln : (l.length + r.length) ≤ 2000000 := by have := HN.out; omega
    have k4 : Chg [] w3 (w3.alloc (.cells #[.int .u8 10] 5)) := Chg.alloc w3 _
    have y4 := heap_new w3 (.cells #[.int .u8 10] 5)
    have hb4 : Bs (w3.alloc (.cells #[.int .u8 10] 5)) (some ⟨w3.heap.size, 0, none⟩) [10] := Or.inr ⟨w3.heap.size, 0, rfl, heap_lt y4, fun j hj => by
      have : j = 0 := by simp at hj; omega
      subst this
      exact cell_is y4 0 rfl⟩
    have o4 := own_keep o3 k4.below0
    have S4 := k4.heap S3 (by simp)
    have t3 : w3.cell? ⟨S, 1, none⟩ = some (.slice p2 (l.length + r.length) c2) := cell_is S3 1 rfl
    have HY := Lib.hid (And.intro kk (And.intro k4 (And.intro o4 (And.intro S4 (And.intro hb4 (And.intro hl3 hln))))))
    have HO3 := Lib.hid o3
    generalize hm2 : (l.length + r.length) = m2 at *
    clear k1 t1 o2 k2 S2 t2 f2 k3 S3 o3 kk hc2 k4 y4 hb4 o4 S4 hl3 hln
    go_wp2_with (first | (at_builtin; refine wpList_append_bs rfl (.tmp 18) (.tmp 19) 23 5 rfl ty23b inf5b lo (.slice p2 m2 c2) m2 (l ++ r) rfl HY.out.2.2.1 (some ⟨w3.heap.size, 0, none⟩) 1 1 [10] rfl rfl HY.out.2.2.2.2.1 (by have := HY.out.2.2.2.2.2.2; omega) (Nat.le_trans HY.out.2.2.2.2.2.1 HY.out.2.1.size) ?_; intro v5 w5 h5; obtain ⟨p5, c5, rfl, hc5⟩ := own_form h5.1; have k5 : Chg (Value.slice p2 m2 c2).ownBlock.toList _ w5 := Chg.of_grownO h5.2.2; have S5 := k5.heap HY.out.2.2.2.1 (own_ne37 HY.out.2.2.1 HY.out.2.2.2.1); have t5 := cell_is S5 1 rfl; have f5 := unfrozen S5 1))
    have k6 : Chg [S] w5 (w5.setCell ⟨S, 1, none⟩ (.slice p5 (m2 + 1) c5)) := Chg.set _ _ _ _
    have S6 : (w5.setCell ⟨S, 1, none⟩ (.slice p5 (m2 + 1) c5)).heap[S]? = some (.cells #[.pointer (some ⟨K, 0, none⟩), .slice p5 (m2 + 1) c5] 37 (0, 0)) := heap_set S5 1 _ rfl
    have o5 := h5.1
    have o6 : (w5.setCell ⟨S, 1, none⟩ (.slice p5 (m2 + 1) c5)).ownsRow lo 5 1 (.slice p5 (m2 + 1) c5) (m2 + 1) (Lib.byteCells (l ++ r ++ [10])) := own_chgB o5 k6 (own_ne37' o5 S5)
    refine bodyPost_end (v := .tuple #[]) (by simp [results, Tryz.results16, go_sem]) rfl ?_
    refine ⟨rfl, _, ⟨S6, ?_⟩, ?_⟩
    · rw [← List.append_assoc]
      have e : (l ++ r ++ [10]).length = m2 + 1 := by rw [List.length_append, List.length_append, hm2]; rfl
      rw [e]
      exact o6
    · have hc := HC.out.1
      have k36 : Chg (S :: (Value.slice p2 m2 c2).ownBlock.toList) w3 _ := ((HY.out.2.1.mono (fun x hx _ => by cases hx)).then (k5.mono (fun x hx _ => List.mem_cons_of_mem _ hx))).then (k6.mono (fun x hx _ => by simp at hx; simp [hx]))
      refine SayC.two HY.out.1 k36 HC.out.2.2 (r := r0) (by rw [← hc]; exact HO3.out) ?_
      cases hl : l with
      | nil => exact Or.inl ⟨rfl, by have h9 := HC.out.2.1 hl; rw [hl] at h9; exact h9⟩
      | cons d l' =>
        rw [hl] at hc
        cases hc
        exact Or.inr ⟨l', rfl⟩
end Go.Proofs.YtgagcbgbjkjghaaGreatDoor
namespace Go.Proofs.YtgagcbgbjkjghaaGreatDoor
open Go.RowKit Go.Lib

/-- the number that a word is. -/
def numF (l : List UInt8) : Option Int := match Lib.atoiAll l with
  | .ok v => if v < 0 then none else if 9 < l.length then none else if Lib.itoa v = l then some v else none
  | _ => none
def intCells (ns : List Int) : List Value := ns.map fun n => .int .i64 n
theorem ty29 : Tryz.prog.underlying 29 = some (.slice 3) := by kernel_rfl
/-- an int is put behind a row of ints. -/
theorem wpList_append_num {ops : Array Oper} {rest : List Oper} {o : Oper} {a : Act} {w : World} {Q : Exit → Act → World → Prop} (hgd : o.guard = none) (s x : Operand)
    (ho : o.op = .call { callee := .builtin .append, args := #[s, x], argTypes := #[29, 29] }) (lo b c n : Nat) (v : Value) (ns : List Int) (k : Int) (hs : a.eval s = v) (hown : w.ownsRow lo 3 1 v n (intCells ns)) (hn : n ≤ 1000000) (hlo : lo ≤ w.heap.size)
    (hx : a.eval x = .slice (some ⟨b, 0, none⟩) 1 c) (hb : w.cell? ⟨b, 0, none⟩ = some (.int .i64 k))
    (h : ∀ v' w', w'.ownsRow lo 3 1 v' (n + 1) (intCells (ns ++ [k])) → Chg v.ownBlock.toList w w' → wpList Tryz.prog ops Q rest (a.put o.dst v') w') : wpList Tryz.prog ops Q (o :: rest) a w := by
  obtain ⟨i, hi0, hz0, hz1, hz2⟩ := info_parts inf3
  refine wpList_append_lies w hgd s x 29 ho lo 3 i _ 1 8 ty29 hi0 hz0 hz1 hz2 rfl (by decide) v n _ hs hown ⟨b, 0, none⟩ 1 c [.int .i64 k] hx rfl ?_ ?_ (by decide) (by unfold maxLen; omega) (by omega) hlo _ rfl ?_
  · intro j u hu
    rw [show (⟨b, 0, none⟩ : Addr).add j = ⟨b, 0 + j, none⟩ from by unfold Addr.add; split <;> simp_all, Nat.zero_add]
    match j with
    | 0 => cases hu; exact hb
    | j + 1 => simp at hu
  · intro u hu
    simp at hu
    subst hu
    rfl
  · intro g cap w' h2 h3 _ _
    refine h _ w' ?_ (Chg.of_grownO h3)
    rw [show intCells (ns ++ [k]) = intCells ns ++ [.int .i64 k] from by simp [intCells]]
    exact h2
/-- what numbers hands back. -/
def NumsR (w : World) (ws : List (List UInt8)) (e : Ending) (w' : World) : Prop :=
  Chg [] w w' ∧ ((∃ ns v, ns.length = ws.length ∧ (∀ i (h : i < ns.length) (h' : i < ws.length), numF ws[i] = some ns[i]) ∧ e = .returned (.tuple #[v, .bool true]) ∧ w'.ownsRow w.heap.size 3 1 v ns.length (intCells ns)) ∨
    ((∃ i, ∃ h : i < ws.length, numF ws[i] = none) ∧ e = .returned (.tuple #[.slice none 0 0, .bool false])))
set_option maxRecDepth 100000 in
set_option maxHeartbeats 4000000 in
theorem nums_any (w : World) {b off c : Nat} {ws : List (List UInt8)} (hG : Scr.Gl w) (hc : ∀ j (h : j < ws.length), w.cell? ⟨b, off + j, none⟩ = some (.string ⟨ws[j].toArray⟩)) (hl : ∀ x ∈ ws, x.length ≤ 1000000) (hm : ws.length ≤ 1000000) :
    Calls Tryz.prog 27 #[.slice (some ⟨b, off, none⟩) ws.length c] w (NumsR w ws) := by
  have HC := Lib.hid hc
  have HG := Lib.hid hG
  have HL := Lib.hid (And.intro hl hm)
  generalize hbase : w.heap.size = base at *
  have HB := Lib.hid hbase
  clear hc hG hl hm hbase
  go_enter Tryz.func27, Tryz.ntmps27
  go_wp2_with fail
  go_loopw [2, 10] (fun v i wr => ∃ j : Nat, i = .int .i64 (j : Int) ∧ j ≤ ws.length ∧ Chg [] w wr ∧ ∃ ns, ns.length = j ∧ (∀ i (h : i < ns.length) (h' : i < ws.length), numF ws[i] = some ns[i]) ∧ wr.ownsRow base 3 1 v j (intCells ns)) (fun _ i _ => ws.length - (intOf i).toNat)
  case atStart => exact ⟨0, rfl, Nat.zero_le _, Chg.refl _ _, [], rfl, fun i h => by simp at h, World.ownsRow_nil _ _ _ _⟩
  case round =>
    obtain ⟨j, rfl, hj, kr, ns, hnl, hns, hown⟩ := hrel
    obtain ⟨pv, cv, rfl, hcv⟩ := own_form hown
    by_cases hlt : j < ws.length
    · have n2 : decide ((j : Int) < (ws.length : Int)) = true := decide_eq_true (by omega)
      have a0 := kr.cell (HC.out j hlt) (by simp)
      have hwj : ws[j].length ≤ 1000000 := HL.out.1 _ (List.getElem_mem hlt)
      generalize hwd : ws[j] = wd at *
      have HA := Lib.hid (Scr.atoi_any ⟨wd.toArray⟩ wr (by show wd.toArray.size ≤ _; simp; omega) (HG.out.keep kr.below0))
      have HR := Lib.hid (And.intro kr (And.intro hnl (And.intro hns (And.intro hown hwd))))
      clear kr hnl hns hown hcv hwd
      go_wp2_with fail
      refine HA.out.mono ?_
      rintro e w1 ⟨hb1, hr⟩
      obtain ⟨kr, hnl, hns, hown, hwd⟩ := HR.out
      have k1 := kr.then (Chg.of_below (S := []) hb1)
      rcases hr with ⟨v, hv, rfl⟩ | ⟨hv, m, t, p, hm0, hm1, rfl⟩
      · by_cases hneg : v < 0
        · have n3 : decide (v < 0) = true := decide_eq_true hneg
          have hnum : numF wd = none := by
            unfold numF
            rw [hv]
            simp only
            rw [if_pos hneg]
          have HF := Lib.hid (And.intro k1 (And.intro hnum hwd))
          clear kr hnl hns hown hwd k1 hb1 hv hnum
          go_wp2_with fail
          go_ret2
          refine ⟨HF.out.1, Or.inr ⟨⟨j, hlt, ?_⟩, rfl⟩⟩
          rw [HF.out.2.2]
          exact HF.out.2.1
        · have n3 : decide (v < 0) = false := decide_eq_false hneg
          by_cases hlen : 9 < wd.length
          · have n4 : decide (9 < (wd.length : Int)) = true := decide_eq_true (by omega)
            have hnum : numF wd = none := by
              unfold numF
              rw [hv]
              simp only
              rw [if_neg hneg, if_pos hlen]
            have HF := Lib.hid (And.intro k1 (And.intro hnum hwd))
            clear kr hnl hns hown hwd k1 hb1 hv hnum
            go_wp2_with fail
            go_ret2
            refine ⟨HF.out.1, Or.inr ⟨⟨j, hlt, ?_⟩, rfl⟩⟩
            rw [HF.out.2.2]
            exact HF.out.2.1
          · have n4 : decide (9 < (wd.length : Int)) = false := decide_eq_false (by omega)
            have HI := Lib.hid (Scr.itoa_any v w1 (Scr.atoiAll_bd hv).1 (Scr.atoiAll_bd hv).2 (HG.out.keep k1.below0))
            by_cases hit : Lib.itoa v = wd
            · have hnum : numF wd = some v := by
                unfold numF
                rw [hv]
                simp only
                rw [if_neg hneg, if_neg hlen, if_pos hit]
              have HF := Lib.hid (And.intro k1 (And.intro hnum (And.intro hnl (And.intro hns (And.intro hown hwd)))))
              have hits : (⟨(Lib.itoa v).toArray⟩ : ByteArray) = ⟨wd.toArray⟩ := by rw [hit]
              clear kr hnl hns hown hwd k1 hv hnum hit
              go_wp2_with fail
              refine HI.out.mono ?_
              rintro e w2 ⟨rfl, hb2⟩
              rw [hits]
              obtain ⟨k1, hnum, hnl, hns, hown, hwd⟩ := HF.out
              have k2 := k1.then (Chg.of_below (S := []) hb2)
              have kb : Chg [] w2 (w2.alloc (.cells #[.int .i64 v] 3)) := Chg.alloc w2 _
              have yb := heap_new w2 (.cells #[.int .i64 v] 3)
              have y0 := cell_is yb 0 rfl
              have hown2 := own_keep hown (((Chg.of_below (S := []) hb1).then (Chg.of_below (S := []) hb2)).then kb).below0
              have hbs : base ≤ (w2.alloc (.cells #[.int .i64 v] 3)).heap.size := by
                have h1 := (k2.then kb).size
                have h2 := HB.out
                omega
              have HR2 := Lib.hid (And.intro k2 (And.intro kb (And.intro hnum (And.intro hnl (And.intro hns hwd)))))
              have n5 : IntKind.i64.wrap ((j : Int) + 1) = ((j + 1 : Nat) : Int) := by rw [IntKind.wrap_i64]; push_cast; have := HL.out.2; omega
              have hj6 : j ≤ 1000000 := by have := HL.out.2; omega
              clear k1 hnum hnl hns hown hwd k2 kb yb hits HF hb1 hb2 HI HA n2
              go_wp2_with (first | (at_builtin; refine wpList_append_num rfl (.tmp 36) (.tmp 38) rfl base w2.heap.size 1 j (.slice pv j cv) ns v rfl hown2 hj6 hbs rfl y0 ?_; intro v3 w3 o3 k3; obtain ⟨p3, c3, rfl, hc3⟩ := own_form o3))
              obtain ⟨k2, kb, hnum, hnl, hns, hwd⟩ := HR2.out
              have kf : Chg [] w w3 := (k2.then kb).trans k3 (fun x hx hl => by
                have h1 : (Value.slice pv j cv).ownBlock = some x := by simpa using hx
                have h2 := (own_elem hown2 h1).1
                have h3 := HB.out
                omega)
              have HF := Lib.hid (show ∃ ns', ns'.length = j + 1 ∧ (∀ i (h : i < ns'.length) (h' : i < ws.length), numF ws[i] = some ns'[i]) ∧ w3.ownsRow base 3 1 (.slice p3 (j + 1) c3) (j + 1) (intCells ns') from ⟨ns ++ [v], by simp [hnl], fun i h h' => by
                by_cases hi : i < ns.length
                · rw [List.getElem_append_left hi]
                  exact hns i hi h'
                · have hij : i = j := by simp at h; omega
                  subst hij
                  rw [List.getElem_append_right (by omega), hwd, hnum]
                  simp [hnl], o3⟩)
              have HK := Lib.hid kf
              clear k2 kb hnum hnl hns hwd kf o3 k3 hc3 hown2 y0 hbs HR2
              go_roundw
              case rel => exact ⟨j + 1, rfl, hlt, HK.out, HF.out⟩
              case measure => simp [intOf]; omega
            · have hnum : numF wd = none := by
                unfold numF
                rw [hv]
                simp only
                rw [if_neg hneg, if_neg hlen, if_neg hit]
              have HF := Lib.hid (And.intro k1 (And.intro hnum hwd))
              have hits : (Lib.itoa v == wd) = false := beq_eq_false_iff_ne.2 hit
              clear kr hnl hns hown hwd k1 hv hnum hit
              go_wp2_with fail
              refine HI.out.mono ?_
              rintro e w2 ⟨rfl, hb2⟩
              have hF2 := Lib.hid (HF.out.1.then (Chg.of_below (S := []) hb2))
              clear hb1 hb2
              go_wp2_with fail
              go_ret2
              refine ⟨hF2.out, Or.inr ⟨⟨j, hlt, ?_⟩, rfl⟩⟩
              rw [HF.out.2.2]
              exact HF.out.2.1
      · have hnum : numF wd = none := by
          unfold numF
          split
          · exact absurd ‹_› (hv _)
          · rfl
        have HF := Lib.hid (And.intro k1 (And.intro hnum hwd))
        clear kr hnl hns hown hwd k1 hb1 hv hnum
        go_wp2_with fail
        go_ret2
        refine ⟨HF.out.1, Or.inr ⟨⟨j, hlt, ?_⟩, rfl⟩⟩
        rw [HF.out.2.2]
        exact HF.out.2.1
    · have n2 : decide ((j : Int) < (ws.length : Int)) = false := decide_eq_false (by omega)
      have HR := Lib.hid (And.intro kr (And.intro hnl (And.intro hns hown)))
      clear kr hnl hns hown hcv
      go_wp2_with fail
      go_ret2
      obtain ⟨kr, hnl, hns, hown⟩ := HR.out
      refine ⟨kr, Or.inl ⟨ns, _, by omega, hns, rfl, ?_⟩⟩
      rw [HB.out, hnl]
      exact hown
/-- numbers of one word. -/
theorem nums_one (w : World) {b off c : Nat} {wd : List UInt8} {n : Int} (hG : Scr.Gl w) (hc : w.cell? ⟨b, off, none⟩ = some (.string ⟨wd.toArray⟩)) (hl : wd.length ≤ 1000000) (hn : numF wd = some n) :
    Calls Tryz.prog 27 #[.slice (some ⟨b, off, none⟩) 1 c] w fun e w' => ∃ g c', e = .returned (.tuple #[.slice (some ⟨g, 0, none⟩) 1 c', .bool true]) ∧ Chg [] w w' ∧ w'.cell? ⟨g, 0, none⟩ = some (.int .i64 n) := by
  refine (nums_any w (b := b) (off := off) (c := c) (ws := [wd]) hG (fun j hj => ?_) (fun x hx => ?_) (by simp)).mono ?_
  · have : j = 0 := by simp at hj; omega
    subst this
    exact hc
  · rw [List.mem_singleton] at hx
    subst hx
    exact hl
  · rintro e w' ⟨k, ⟨ns, v, h1, h2, rfl, h3⟩ | ⟨⟨i, hi, h2⟩, -⟩⟩
    · match ns, h1 with
      | [m], _ =>
        obtain ⟨g, c', rfl⟩ := own_some h3 (by simp)
        have h4 := h2 0 (by simp) (by simp)
        rw [show ([wd] : List (List UInt8))[0] = wd from rfl, hn] at h4
        cases h4
        refine ⟨g, c', rfl, k, ?_⟩
        have h5 := h3.cells (g := g) rfl 0 _ rfl
        simpa [Addr.add] using h5
    · have : i = 0 := by simp at hi; omega
      subst this
      rw [show ([wd] : List (List UInt8))[0] = wd from rfl, hn] at h2
      cases h2
/-- numbers of no word. -/
theorem nums_none (w : World) {b off c : Nat} (hG : Scr.Gl w) :
    Calls Tryz.prog 27 #[.slice (some ⟨b, off, none⟩) 0 c] w fun e w' => ∃ p c', e = .returned (.tuple #[.slice p 0 c', .bool true]) ∧ Chg [] w w' := by
  refine (nums_any w (b := b) (off := off) (c := c) (ws := []) hG (fun j hj => by simp at hj) (fun x hx => by cases hx) (by simp)).mono ?_
  rintro e w' ⟨k, ⟨ns, v, h1, h2, rfl, h3⟩ | ⟨⟨i, hi, h2⟩, -⟩⟩
  · obtain rfl : ns = [] := List.eq_nil_of_length_eq_zero h1
    obtain ⟨p, c', rfl, -⟩ := own_form h3
    exact ⟨p, c', rfl, k⟩
  · simp at hi
/-- numbers of words whose first one is none. -/
theorem nums_bad (w : World) {b off c n : Nat} {wd : List UInt8} {r : List (List UInt8)} (hG : Scr.Gl w) (hnl : n = r.length + 1) (hc : ∀ j (h : j < (wd :: r).length), w.cell? ⟨b, off + j, none⟩ = some (.string ⟨(wd :: r)[j].toArray⟩)) (hl : ∀ x ∈ wd :: r, x.length ≤ 1000000) (hm : r.length ≤ 100) (hn : numF wd = none) :
    Calls Tryz.prog 27 #[.slice (some ⟨b, off, none⟩) n c] w fun e w' => e = .returned (.tuple #[.slice none 0 0, .bool false]) ∧ Chg [] w w' := by
  subst hnl
  refine (nums_any w (b := b) (off := off) (c := c) (ws := wd :: r) hG hc hl (by simp; omega)).mono ?_
  rintro e w' ⟨k, ⟨ns, v, h1, h2, rfl, h3⟩ | ⟨-, rfl⟩⟩
  · have h4 := h2 0 (by rw [h1]; simp) (by simp)
    rw [show (wd :: r)[0] = wd from rfl, hn] at h4
    cases h4
  · exact ⟨rfl, k⟩
end Go.Proofs.YtgagcbgbjkjghaaGreatDoor
namespace Go.Proofs.YtgagcbgbjkjghaaGreatDoor
open Go.RowKit Go.Lib

theorem ty27 : Tryz.prog.underlying 27 = some (.slice 9) := by kernel_rfl
theorem inf9 : (Tryz.prog.info? 9).map (fun i => (i.zero, i.size, i.bytes)) = some (some (.string ⟨#[]⟩), 1, 16) := by kernel_rfl
/-- nothing is put behind a row of words. -/
theorem append_words_none (w : World) (g m c : Nat) (ty : TypeId) (h : m ≤ c) : (Builtin.append_ #[27, 27] ty #[.slice (some ⟨g, 0, none⟩) m c, .slice none 0 0]).run Tryz.prog w = .ok (.slice (some ⟨g, 0, none⟩) m c) w := by
  obtain ⟨i, hi0, hz, hz1, hz2⟩ := info_parts inf9
  simp [Builtin.append_, run_underlying ty27, sizeOf, typeInfo, hi0, Builtin.lenOf, Builtin.firstCells, storeCells, h]
/-- words in a block of their own. -/
theorem own_words {w : World} {g n : Nat} {cs : Array Value} {ws : List (List UInt8)} (h : w.heap[g]? = some (.cells cs 9 (0, 0))) (hc : cs = (strCells ws).toArray) (hn : n = ws.length) (hm : n ≤ 1000) : w.ownsRow g 9 1 (.slice (some ⟨g, 0, none⟩) n n) n (strCells ws) := by
  subst hc
  subst hn
  exact ⟨by rw [strCells_length, Nat.mul_one], .inr ⟨g, ws.length, _, rfl, Nat.le_refl _, h, Nat.le_refl _, by unfold maxLen; omega, by simp [strCells_length], by rw [List.take_of_length_le (by simp [strCells_length])]⟩⟩
set_option maxRecDepth 100000 in
theorem client_is (w : World) (a : Int) (h : 1 ≤ a ∧ a ≤ 8) : Calls Tryz.prog 52 #[.int .i64 a] w fun e w' => e = .returned (.bool true) ∧ w = w' := by
  have n1 : decide (1 ≤ a) = true := decide_eq_true h.1
  have n2 : decide (a ≤ 8) = true := decide_eq_true h.2
  go_enter Tryz.func52, Tryz.ntmps52
  go_wp2_with fail
  go_ret
  exact ⟨rfl, rfl⟩
set_option maxRecDepth 100000 in
set_option maxHeartbeats 1000000 in
theorem done_ok (w : World) {S K lo : Nat} {ov : Value} {l : List UInt8} {c : UInt8} {r0 : List UInt8} (h : Sh w S K lo ov l) (hl : l.length ≤ 1000000) (hlo : lo ≤ w.heap.size) (hc : l ++ [111, 107] = c :: r0) (hl0 : l = [] → ov = .slice none 0 0) :
    Calls Tryz.prog 28 #[.pointer (some ⟨S, 0, none⟩), .int .i64 0, .slice none 0 0] w fun e w' => e = .returned (.bool true) ∧ ∃ ov', Sh w' S K lo ov' (l ++ [111, 107, 10]) ∧ SayC lo S c w w' := by
  have k1 : Chg [] w (w.alloc (.cells #[.string ⟨#[111, 107]⟩] 9)) := Chg.alloc w _
  have y1 := heap_new w (.cells #[.string ⟨#[111, 107]⟩] 9)
  have ho := own_words (ws := [[111, 107]]) y1 rfl rfl (by decide)
  have h1 : Sh (w.alloc (.cells #[.string ⟨#[111, 107]⟩] 9)) S K lo ov l := ⟨k1.heap h.1 (by simp), own_keep h.2 k1.below0⟩
  have HS := Lib.hid (say_any _ h1 ho (by simp) (by decide) (by decide) hl (Nat.le_trans hlo k1.size) (c := c) (r0 := r0) hc hl0)
  have HK := Lib.hid k1
  clear h hl hlo hc hl0 k1 y1 ho h1
  go_enter Tryz.func28, Tryz.ntmps28
  go_wp2_with (first | (at_builtin; refine Lib.wpList_append_run _ rfl (.tmp 10) (.tmp 11) 27 27 rfl _ _ rfl rfl _ _ (append_words_none _ _ _ _ _ (Nat.le_refl _)) ?_))
  refine HS.out.mono ?_
  rintro e w2 ⟨rfl, ov', h2, hC⟩
  have HF := Lib.hid (And.intro h2 hC)
  clear h2 hC
  go_wp2_with fail
  go_ret
  exact ⟨rfl, ov', HF.out.1, SayC.pre HK.out HF.out.2⟩
end Go.Proofs.YtgagcbgbjkjghaaGreatDoor
namespace Go.Proofs.YtgagcbgbjkjghaaGreatDoor
open Go.RowKit Go.Lib

theorem join_single (x : List UInt8) : Lib.join [x] [32] = x := by simp [Lib.join, List.intercalate]
/-- what a step leaves that told something. -/
def StepR (S K lo : Nat) (c : UInt8) (l : List UInt8) (b : Bool) (P : World → Prop) (e : Ending) (w' : World) : Prop := e = .returned (.bool b) ∧ ∃ w2 ov', P w2 ∧ SayC lo S c w2 w' ∧ Sh w' S K lo ov' l
set_option maxRecDepth 100000 in
set_option maxHeartbeats 4000000 in
theorem shstep_told (w : World) {S K lo : Nat} {ov : Value} {ol : List UInt8} {a k z h t : Int} {P : World → Prop} {c : UInt8} {r0 : List UInt8} (hS : w.cell? ⟨S, 0, none⟩ = some (.pointer (some ⟨K, 0, none⟩)))
    (HS : Calls Tryz.prog 138 #[.pointer (some ⟨K, 0, none⟩), .int .i64 a] w fun e w1 => e = .returned (.tuple #[.agg #[.int .i64 k, .int .i64 z, .int .i64 h, .int .i64 t, .slice none 0 0], .int .i64 0]) ∧ P w1)
    (hP : ∀ x y, P x → Chg [] x y → P y) (hsh : ∀ x, P x → Sh x S K lo ov ol ∧ Scr.Gl x ∧ lo ≤ x.heap.size)
    (hz0 : -9223372036854775808 ≤ z) (hz1 : z ≤ 9223372036854775807) (hh0 : -9223372036854775808 ≤ h) (hh1 : h ≤ 9223372036854775807) (ht0 : -9223372036854775808 ≤ t) (ht1 : t ≤ 9223372036854775807)
    (hl : ol.length ≤ 100000) (hal : (Scr.ansT k z h t []).length ≤ 1000) (hc : ol ++ Scr.ansT k z h t [] = c :: r0) (hl0 : ol = [] → ov = .slice none 0 0) :
    Calls Tryz.prog 73 #[.pointer (some ⟨S, 0, none⟩), .int .i64 a] w (StepR S K lo c (ol ++ (Scr.ansT k z h t [] ++ [10])) true P) := by
  have HSo := Lib.hid HS
  have HI := Lib.hid (And.intro hP (And.intro hsh (And.intro hl (And.intro hal (And.intro hc hl0)))))
  have HA := Lib.hid (fun (wx : World) (hG : Scr.Gl wx) => Scr.ans_any k z h t none 0 0 [] wx hG rfl (by decide) (Nat.le_refl _) (Or.inl rfl) hz0 hz1 hh0 hh1 ht0 ht1)
  clear HS hP hsh hl hal hc hl0 hz0 hz1 hh0 hh1 ht0 ht1
  go_enter Tryz.func73, Tryz.ntmps73
  go_wp2_with fail
  refine HSo.out.mono ?_
  rintro e w1 ⟨rfl, hp⟩
  obtain ⟨hP, hsh, hl, hal, hc, hl0⟩ := HI.out
  have k0 : Chg [] w1 (w1.alloc (.cells #[.int .i64 0, .int .i64 0, .int .i64 0, .int .i64 0, .slice none 0 0] 208)) := Chg.alloc w1 _
  have y0 := heap_new w1 (.cells #[.int .i64 0, .int .i64 0, .int .i64 0, .int .i64 0, .slice none 0 0] 208)
  have d0 := cell_is y0 0 rfl
  have d1 := cell_is y0 1 rfl
  have d2 := cell_is y0 2 rfl
  have d3 := cell_is y0 3 rfl
  have d4 := cell_is y0 4 rfl
  have e0 := unfrozen y0 0
  have e1 := unfrozen y0 1
  have e2 := unfrozen y0 2
  have e3 := unfrozen y0 3
  have e4 := unfrozen y0 4
  have HP := Lib.hid hp
  have HGx := Lib.hid (hP)
  clear hp hP hsh hl hal hc hl0 hS k0 y0
  go_upto_region 2 with fail
  clear d0 d1 d2 d3 d4 e0 e1 e2 e3 e4
  have k2 : Chg [] w1 (w1.alloc (.cells #[.int .i64 k, .int .i64 z, .int .i64 h, .int .i64 t, .slice none 0 0] 208)) := Chg.alloc w1 _
  have y2 := heap_new w1 (.cells #[.int .i64 k, .int .i64 z, .int .i64 h, .int .i64 t, .slice none 0 0] 208)
  generalize w1.alloc (.cells #[.int .i64 k, .int .i64 z, .int .i64 h, .int .i64 t, .slice none 0 0] 208) = w2 at *
  have d0 := cell_is y2 0 rfl
  have d1 := cell_is y2 1 rfl
  have d2 := cell_is y2 2 rfl
  have d3 := cell_is y2 3 rfl
  have d4 := cell_is y2 4 rfl
  have P2 := HGx.out _ _ HP.out k2
  have HA2 := Lib.hid (HA.out w2 (HI.out.2.1 _ P2).2.1)
  have HP2 := Lib.hid P2
  clear k2 y2 P2
  go_wp2_with fail
  refine HA2.out.mono ?_
  rintro e w3 ⟨rfl, hb3⟩
  have k3 : Chg [] w2 w3 := Chg.of_below hb3
  have P3 := HGx.out _ _ HP2.out k3
  have k4 : Chg [] w3 (w3.alloc (.cells #[.string ⟨(Scr.ansT k z h t []).toArray⟩] 9)) := Chg.alloc w3 _
  have y4 := heap_new w3 (.cells #[.string ⟨(Scr.ansT k z h t []).toArray⟩] 9)
  have P4 := HGx.out _ _ P3 k4
  have ho := own_words (ws := [Scr.ansT k z h t []]) y4 rfl rfl (show 1 ≤ 1000 by decide)
  obtain ⟨-, hsh, hl, hal, hc, hl0⟩ := HI.out
  obtain ⟨sh4, -, lo4⟩ := hsh _ P4
  have HS := Lib.hid (say_any _ sh4 ho (by simp) (show 1 ≤ 1000000 by decide) (by rw [join_single]; omega) (by omega) lo4 (c := c) (r0 := r0) (by rw [join_single]; exact hc) hl0)
  have HP4 := Lib.hid P4
  clear k3 P3 k4 y4 P4 ho hsh hl hal hc hl0 sh4 lo4 hb3 d0 d1 d2 d3 d4
  go_wp2_with fail
  refine HS.out.mono ?_
  rintro e w5 ⟨rfl, ov', hs5, hc5⟩
  have HF := Lib.hid (And.intro hs5 hc5)
  clear hs5 hc5
  go_wp2_with fail
  go_ret
  refine ⟨rfl, _, ov', HP4.out, HF.out.2, ?_⟩
  have h9 := HF.out.1
  rw [join_single] at h9
  exact h9
set_option maxRecDepth 100000 in
set_option maxHeartbeats 4000000 in
theorem shstep_wait (w : World) {S K lo : Nat} {ov : Value} {ol : List UInt8} {a : Int} {P : World → Prop} {c : UInt8} {r0 : List UInt8} (hS : w.cell? ⟨S, 0, none⟩ = some (.pointer (some ⟨K, 0, none⟩)))
    (HS : Calls Tryz.prog 138 #[.pointer (some ⟨K, 0, none⟩), .int .i64 a] w fun e w1 => e = .returned (.tuple #[.agg #[.int .i64 0, .int .i64 0, .int .i64 0, .int .i64 0, .slice none 0 0], .int .i64 16]) ∧ P w1)
    (hP : ∀ x y, P x → Chg [] x y → P y) (hsh : ∀ x, P x → Sh x S K lo ov ol ∧ Scr.Gl x ∧ lo ≤ x.heap.size)
    (hl : ol.length ≤ 100000) (hc : ol ++ [119, 97, 105, 116] = c :: r0) (hl0 : ol = [] → ov = .slice none 0 0) :
    Calls Tryz.prog 73 #[.pointer (some ⟨S, 0, none⟩), .int .i64 a] w (StepR S K lo c (ol ++ [119, 97, 105, 116, 10]) false P) := by
  have HSo := Lib.hid HS
  have HI := Lib.hid (And.intro hP (And.intro hsh (And.intro hl (And.intro hc hl0))))
  clear HS hP hsh hl hc hl0
  go_enter Tryz.func73, Tryz.ntmps73
  go_wp2_with fail
  refine HSo.out.mono ?_
  rintro e w1 ⟨rfl, hp⟩
  have y0 := heap_new w1 (.cells #[.int .i64 0, .int .i64 0, .int .i64 0, .int .i64 0, .slice none 0 0] 208)
  have d0 := cell_is y0 0 rfl
  have d1 := cell_is y0 1 rfl
  have d2 := cell_is y0 2 rfl
  have d3 := cell_is y0 3 rfl
  have d4 := cell_is y0 4 rfl
  have e0 := unfrozen y0 0
  have e1 := unfrozen y0 1
  have e2 := unfrozen y0 2
  have e3 := unfrozen y0 3
  have e4 := unfrozen y0 4
  have HP := Lib.hid hp
  clear hp hS y0
  go_upto_region 2 with fail
  clear d0 d1 d2 d3 d4 e0 e1 e2 e3 e4
  have k2 : Chg [] w1 (w1.alloc (.cells #[.int .i64 0, .int .i64 0, .int .i64 0, .int .i64 0, .slice none 0 0] 208)) := Chg.alloc w1 _
  generalize w1.alloc (.cells #[.int .i64 0, .int .i64 0, .int .i64 0, .int .i64 0, .slice none 0 0] 208) = w2 at *
  have k4 : Chg [] w2 (w2.alloc (.cells #[.string ⟨#[119, 97, 105, 116]⟩] 9)) := Chg.alloc w2 _
  have y4 := heap_new w2 (.cells #[.string ⟨#[119, 97, 105, 116]⟩] 9)
  obtain ⟨hP, hsh, hl, hc, hl0⟩ := HI.out
  have P4 := hP _ _ (hP _ _ HP.out k2) k4
  have ho := own_words (ws := [[119, 97, 105, 116]]) y4 rfl rfl (by decide)
  obtain ⟨sh4, -, lo4⟩ := hsh _ P4
  have HS := Lib.hid (say_any _ sh4 ho (by simp) (by decide) (by decide) (by omega) lo4 (c := c) (r0 := r0) hc hl0)
  have HP4 := Lib.hid P4
  clear k2 P4 k4 y4 ho hsh hl hc hl0 sh4 lo4 hP
  go_wp2_with fail
  refine HS.out.mono ?_
  rintro e w5 ⟨rfl, ov', hs5, hc5⟩
  have HF := Lib.hid (And.intro hs5 hc5)
  clear hs5 hc5
  go_wp2_with fail
  go_ret
  exact ⟨rfl, _, ov', HP4.out, HF.out.2, HF.out.1⟩
end Go.Proofs.YtgagcbgbjkjghaaGreatDoor
namespace Go.Proofs.YtgagcbgbjkjghaaGreatDoor
open Go.RowKit Go.Lib

set_option maxRecDepth 100000 in
set_option maxHeartbeats 4000000 in
theorem run_any (w : World) {S : Nat} {a : Int} {m : Nat} {P : Nat → World → Prop} {Q : World → Prop} (ha : 1 ≤ a ∧ a ≤ 8) (hm : m < 200) (h0 : P 0 w)
    (HT : ∀ i wx, i < m → P i wx → Calls Tryz.prog 73 #[.pointer (some ⟨S, 0, none⟩), .int .i64 a] wx fun e w' => e = .returned (.bool true) ∧ P (i + 1) w')
    (HW : ∀ wx, P m wx → Calls Tryz.prog 73 #[.pointer (some ⟨S, 0, none⟩), .int .i64 a] wx fun e w' => e = .returned (.bool false) ∧ Q w') :
    Calls Tryz.prog 31 #[.pointer (some ⟨S, 0, none⟩), .string ⟨#[114, 117, 110]⟩, .int .i64 a] w fun e w' => e = .returned (.bool true) ∧ Q w' := by
  have HCl := Lib.hid (client_is w a ha)
  have HI := Lib.hid (And.intro h0 (And.intro HT HW))
  clear h0 HT HW
  go_enter Tryz.func31, Tryz.ntmps31
  go_wp2_with fail
  refine HCl.out.mono ?_
  rintro e w1 ⟨rfl, rfl⟩
  go_wp2_with fail
  go_loopw [24] (fun i wr => ∃ j : Nat, i = .int .i64 (j : Int) ∧ j ≤ m ∧ P j wr) (fun i _ => m - (intOf i).toNat)
  case atStart => exact ⟨0, rfl, Nat.zero_le _, HI.out.1⟩
  case round =>
    obtain ⟨j, rfl, hj, hp⟩ := hrel
    have n1 : decide ((j : Int) < 200) = true := decide_eq_true (by omega)
    by_cases hlt : j < m
    · have HS := Lib.hid (HI.out.2.1 j wr hlt hp)
      clear hp
      go_wp2_with fail
      refine HS.out.mono ?_
      rintro e w2 ⟨rfl, hp2⟩
      have HP := Lib.hid hp2
      have n5 : IntKind.i64.wrap ((j : Int) + 1) = ((j + 1 : Nat) : Int) := by rw [IntKind.wrap_i64]; push_cast; omega
      clear hp2
      go_wp2_with fail
      go_roundw
      case rel => exact ⟨j + 1, rfl, hlt, HP.out⟩
      case measure => simp [intOf]; omega
    · have hje : j = m := by omega
      subst hje
      have HS := Lib.hid (HI.out.2.2 wr hp)
      clear hp
      go_wp2_with fail
      refine HS.out.mono ?_
      rintro e w2 ⟨rfl, hq⟩
      have HQ := Lib.hid hq
      clear hq
      go_wp2_with fail
      go_ret
      exact ⟨rfl, HQ.out⟩
end Go.Proofs.YtgagcbgbjkjghaaGreatDoor
namespace Go.Proofs.YtgagcbgbjkjghaaGreatDoor
open Go.RowKit Go.Lib

/-- the mark of a line that has an op. -/
def opP : List UInt8 := [111, 112, 32]
theorem cutp (w : World) (l : List UInt8) : Calls Tryz.prog 24 #[.string ⟨l.toArray⟩, .string ⟨#[111, 112, 32]⟩] w fun e w' => e = .returned (.tuple #[.string ⟨(Lib.trimPrefix l opP).toArray⟩, .bool (Lib.hasPrefix l opP)]) ∧ w' = w := by
  have h := Tryz.strings_CutPrefix ⟨l.toArray⟩ ⟨#[111, 112, 32]⟩ w
  simpa [opP] using h
set_option maxRecDepth 100000 in
theorem line_op (w : World) {S : Nat} {l t : List UInt8} {b : Bool} {Q : World → Prop} (hl : Lib.hasPrefix l opP = true) (ht : Lib.trimPrefix l opP = t)
    (HO : Calls Tryz.prog 25 #[.pointer (some ⟨S, 0, none⟩), .string ⟨t.toArray⟩] w fun e w' => e = .returned (.bool b) ∧ Q w') :
    Calls Tryz.prog 15 #[.pointer (some ⟨S, 0, none⟩), .string ⟨l.toArray⟩] w fun e w' => e = .returned (.bool b) ∧ Q w' := by
  have HC : Hid (Calls Tryz.prog 24 #[.string ⟨l.toArray⟩, .string ⟨#[111, 112, 32]⟩] w fun e w' => e = .returned (.tuple #[.string ⟨t.toArray⟩, .bool true]) ∧ w' = w) := Lib.hid (by
    have h := cutp w l
    rw [hl, ht] at h
    exact h)
  have HOh := Lib.hid HO
  clear hl ht HO
  go_enter Tryz.func15, Tryz.ntmps15
  go_wp2_with fail
  refine HC.out.mono ?_
  rintro e w1 ⟨rfl, rfl⟩
  go_wp2_with fail
  refine HOh.out.mono ?_
  rintro e w2 ⟨rfl, hq⟩
  have HQ := Lib.hid hq
  clear hq
  go_wp2_with fail
  go_ret
  exact ⟨rfl, HQ.out⟩
set_option maxRecDepth 100000 in
set_option maxHeartbeats 2000000 in
/-- a line of two words, the second one a number. -/
theorem line_one (w : World) {S : Nat} {l wd nw : List UInt8} {n : Int} {b : Bool} {Q : World → Prop} (hG : Scr.Gl w) (hlen : l.length ≤ 1000) (hl : Lib.hasPrefix l opP = false) (hw : words l = [wd, nw]) (hwl : wd.length ≤ 1000 ∧ nw.length ≤ 1000) (hn : numF nw = some n)
    (h1 : (wd == [99, 114, 97, 115, 104]) = false) (h2 : (wd == [116, 101, 97, 114]) = false)
    (HO : ∀ wx, Chg [] w wx → Calls Tryz.prog 31 #[.pointer (some ⟨S, 0, none⟩), .string ⟨wd.toArray⟩, .int .i64 n] wx fun e w' => e = .returned (.bool b) ∧ Q w') :
    Calls Tryz.prog 15 #[.pointer (some ⟨S, 0, none⟩), .string ⟨l.toArray⟩] w fun e w' => e = .returned (.bool b) ∧ Q w' := by
  have HC : Hid (Calls Tryz.prog 24 #[.string ⟨l.toArray⟩, .string ⟨#[111, 112, 32]⟩] w fun e w' => e = .returned (.tuple #[.string ⟨(Lib.trimPrefix l opP).toArray⟩, .bool false]) ∧ w' = w) := Lib.hid (by
    have h := cutp w l
    rw [hl] at h
    exact h)
  have HSp : Hid (Calls Tryz.prog 26 #[.string ⟨l.toArray⟩, .string ⟨#[32]⟩] w fun e w' => e = .returned (.slice (some ⟨w.heap.size, 0, none⟩) 2 2) ∧ w' = w.alloc (.cells #[.string ⟨wd.toArray⟩, .string ⟨nw.toArray⟩] 9)) := Lib.hid (by
    have h := Scr.split_any ⟨l.toArray⟩ w (by show l.toArray.size < _; simp; omega) hG
    rw [show (⟨l.toArray⟩ : ByteArray).data.toList = l by simp, hw] at h
    exact h)
  have k1 : Chg [] w (w.alloc (.cells #[.string ⟨wd.toArray⟩, .string ⟨nw.toArray⟩] 9)) := Chg.alloc w _
  have y1 := heap_new w (.cells #[.string ⟨wd.toArray⟩, .string ⟨nw.toArray⟩] 9)
  have HOh := Lib.hid HO
  have HN := Lib.hid (nums_one _ (c := 1) (hG.keep k1.below0) (cell_is y1 1 rfl) (by omega) hn)
  have c0 := cell_is y1 0 rfl
  have HK := Lib.hid k1
  clear hG hlen hl hw hwl hn HO k1 y1
  go_enter Tryz.func15, Tryz.ntmps15
  go_wp2_with fail
  refine HC.out.mono ?_
  rintro e w1 ⟨rfl, rfl⟩
  go_wp2_with fail
  refine HSp.out.mono ?_
  rintro e w2 ⟨rfl, rfl⟩
  go_wp2_with fail
  refine HN.out.mono ?_
  rintro e w3 ⟨g, c', rfl, k3, t3⟩
  have c3 := k3.cell c0 (by simp)
  have HO3 := Lib.hid (HOh.out w3 (HK.out.then k3))
  clear k3 c0
  go_wp2_with fail
  refine HO3.out.mono ?_
  rintro e w4 ⟨rfl, hq⟩
  have HQ := Lib.hid hq
  clear hq
  go_wp2_with fail
  go_ret
  exact ⟨rfl, HQ.out⟩
end Go.Proofs.YtgagcbgbjkjghaaGreatDoor
namespace Go.Proofs.YtgagcbgbjkjghaaGreatDoor
open Go.RowKit Go.Lib

/-- the bytes of an op's put do not begin with an o. -/
def OpO (s : OpS) : Prop := ∀ b l, s.p = some (b, l) → NoO l
theorem PutOf.keepO {w w' : World} {U : List Nat} {lo : Nat} {pv : Value} {b : Int} {l : List UInt8} (h : PutOf w lo pv b l) (hc : Chg U w w') (hU : AvO w U [138, 5]) (hl : NoO l) : PutOf w' lo pv b l := by
  obtain ⟨E, c, D, cd, cs, h1, h2, h3, h4, h5, h6, h7, h8, ct, h9⟩ := h
  have nD : D ∉ U := hU.bt ⟨ct, h9⟩ (by simp) h7 hl
  exact ⟨E, c, D, cd, cs, h1, h2, h3, hc.heap h4 (hU.ne h4 (by simp) (by decide)), h5, h6, h7.chgB hc nD, h8, ct, hc.heap h9 nD⟩
theorem OpV.keepO {w w' : World} {U : List Nat} {lo : Nat} {s : OpS} {u : List Value} (h : OpV w lo s u) (hc : Chg U w w') (hU : AvO w U [138, 5]) (hl : OpO s) : OpV w' lo s u := by
  obtain ⟨pv, h1, h2 | ⟨b, dl, h2, h3⟩⟩ := h
  · exact ⟨pv, h1, Or.inl h2⟩
  · exact ⟨pv, h1, Or.inr ⟨b, dl, h2, h3.keepO hc hU (hl _ _ h2)⟩⟩
theorem OpsL.keepO {w w' : World} {U : List Nat} {lo : Nat} {ss : List OpS} {xs : List Value} (h : OpsL w lo ss xs) (hc : Chg U w w') (hU : AvO w U [138, 5]) (hl : ∀ s ∈ ss, OpO s) : OpsL w' lo ss xs := by
  induction ss generalizing xs with
  | nil => exact h
  | cons s ss ih =>
    obtain ⟨u, ys, h1, h2, h3⟩ := h
    exact ⟨u, ys, h1, h2.keepO hc hU (hl s (by simp)), ih h3 (fun t ht => hl t (by simp [ht]))⟩
theorem OpW.keepO {w w' : World} {U : List Nat} {lw g E D cE cD : Nat} {r : List UInt8} (h : OpW w lw g E D cE cD r) (hc : Chg U w w') (hU : AvO w U [116, 138, 5]) (hr : NoO r) : OpW w' lw g E D cE cD r := by
  obtain ⟨⟨cur, h1, h1'⟩, ⟨cs, h2, h2'⟩, h3, h4, ct, h5⟩ := h
  have nD : D ∉ U := hU.bt ⟨ct, h5⟩ (by simp) h3 hr
  exact ⟨⟨cur, hc.heap h1 (hU.ne h1 (by simp) (by decide)), h1'⟩, ⟨cs, hc.heap h2 (hU.ne h2 (by simp) (by decide)), h2'⟩, h3.chgB hc nD, h4, ct, hc.heap h5 nD⟩
/-- what a line that is said gives to all that is kept. -/
theorem SayC.parts {lo S : Nat} {w w' : World} {cs : Array Value} (h : SayC lo S 111 w w') (hS : w.heap[S]? = some (.cells cs 37 (0, 0))) :
    ∃ U, Chg U w w' ∧ (∀ ts, 37 ∉ ts → AvO w U ts) ∧ (∀ x ∈ U, x < w.heap.size → x = S ∨ lo ≤ x) ∧ ∀ r L, MapAt w r L → r ∉ U := by
  obtain ⟨U, h1, h2⟩ := h
  refine ⟨U, h1, fun ts h37 x hx cs2 t fr hh => ?_, fun x hx hl => ?_, fun r L hm hr => ?_⟩
  · rcases h2 x hx (heap_lt hh) with rfl | ⟨-, cs3, e1, e2⟩
    · rw [hS] at hh
      cases hh
      exact Or.inl h37
    · rw [e1] at hh
      cases hh
      exact Or.inr ⟨rfl, e2⟩
  · rcases h2 x hx hl with e | ⟨e, -⟩
    · exact Or.inl e
    · exact Or.inr e
  · rcases h2 r hr hm.lt with rfl | ⟨-, cs3, e1, -⟩
    · exact map_cells hm hS rfl
    · exact map_cells hm e1 rfl
theorem own_k {w w' : World} {U ts : List Nat} {lo e size n : Nat} {v : Value} {xs : List Value} (h : w.ownsRow lo e size v n xs) (hc : Chg U w w') (hU : AvO w U ts) (he : e ∈ ts) (h5 : e ≠ 5) : w'.ownsRow lo e size v n xs := own_chgB h hc (fun g hg => by
  obtain ⟨-, cur, hh⟩ := own_elem h hg
  exact hU.ne hh he h5)
theorem safe00 (lw : Nat) (ops : Int) : SafeO (s00 lw) (g00 lw ops) := ⟨(fun b x hx => by cases hx), (fun j _ x hx => by cases hx), rfl⟩
theorem sch_set (N P : Nat) (o o' b a : Value) (q : Bool) (al : Value) (ev : Int) {cs' : Array Value} (h2 : cs'[2]? = some o') (hr : ∀ j, j ≠ 2 → cs'[j]? = (sch N P o b a q al ev)[j]?) : cs' = sch N P o' b a q al ev := by
  refine Array.ext_getElem? (fun i => ?_)
  by_cases hi : i = 2
  · subst hi
    rw [h2]
    rfl
  · rw [hr i hi, show sch N P o' b a q al ev = (sch N P o b a q al ev).setIfInBounds 2 o' from rfl, Array.getElem?_setIfInBounds_ne (Ne.symm hi)]
/-- ops wait in a new schedule: block S is the shell, which has answered ol so far. -/
structure StA (w0 : World) (lu lw S K : Nat) (d : Ids) (ops : Int) (ov : Value) (ol : List UInt8) (ss : List OpS) (w : World) : Prop where
  lul : lu ≤ lw
  luS : lu ≤ S
  lwK : lw ≤ K
  lws : lw ≤ w.heap.size
  up : Up lu w0 w
  sto : Sto w lw d (s00 lw) (g00 lw ops)
  sh : Sh w S K lw ov ol
  row : ∃ v xs, SchB w K (sch d.N d.P v (.slice none 0 0) (.slice none 0 0) false (.slice none 0 0) 0) ∧ w.ownsRow lw 116 5 v ss.length xs ∧ OpsL w lw ss xs
section
variable {w0 w w' : World} {lu lw S K : Nat} {d : Ids} {ops : Int} {ov ov' : Value} {ol ol' : List UInt8} {ss : List OpS}
theorem StA.keep (h : StA w0 lu lw S K d ops ov ol ss w) (hc : Chg [] w w') : StA w0 lu lw S K d ops ov ol ss w' := by
  obtain ⟨v, xs, h1, h2, h3⟩ := h.row
  exact ⟨h.lul, h.luS, h.lwK, Nat.le_trans h.lws hc.size, h.up.then hc (fun x hx => by cases hx), h.sto.keep hc, ⟨hc.heap h.sh.1 (by simp), own_keep h.sh.2 hc.below0⟩, v, xs, hc.heap h1 (by simp), own_keep h2 hc.below0, h3.keepT hc (fun x hx => by cases hx)⟩
theorem StA.say (h : StA w0 lu lw S K d ops ov ol ss w) (hc : SayC lw S 111 w w') (hs : Sh w' S K lw ov' ol') (hss : ∀ s ∈ ss, OpO s) : StA w0 lu lw S K d ops ov' ol' ss w' := by
  obtain ⟨U, k, hU, hlo, hm⟩ := hc.parts h.sh.1
  obtain ⟨v, xs, h1, h2, h3⟩ := h.row
  refine ⟨h.lul, h.luS, h.lwK, Nat.le_trans h.lws k.size, h.up.then k (fun x hx hl => ?_), h.sto.keepO (safe00 lw ops) k (hU _ (by decide)) (hm _ _ h.sto.mx.ver.m) (hm _ _ h.sto.mx.book.2) (hm _ _ h.sto.mx.map), hs, v, xs, k.heap h1 ((hU [64] (by decide)).ne h1 (by simp) (by decide)), own_k h2 k (hU [116] (by decide)) (by simp) (by decide), h3.keepO k (hU _ (by decide)) hss⟩
  have h4 := h.luS
  have h5 := h.lul
  rcases hlo x hx hl with rfl | h6
  · exact h4
  · omega
/-- one more op is handed to the schedule. -/
theorem StA.add {wp : World} {E c : Nat} {o : OpS} (hp : StA w0 lu lw S K d ops ov ol ss wp) (hk : Chg [] wp w) (hE : OpsG w E [o]) (hlE : wp.heap.size ≤ E) (hn : ss.length + 1 ≤ 200) :
    Calls Tryz.prog 54 #[.pointer (some ⟨K, 0, none⟩), .int .i64 1, .slice (some ⟨E, 0, none⟩) 1 c] w fun e w' => e = .returned (.int .i64 0) ∧ StA w0 lu lw S K d ops ov ol (ss ++ [o]) w' := by
  have h := hp.keep hk
  obtain ⟨v, xs, h1', h2', h3'⟩ := hp.row
  have h1 : SchB w K _ := hk.heap h1' (by simp)
  have h2 := own_keep h2' hk.below0
  have h3 := h3'.keepT hk (fun x hx => by cases hx)
  have hne : v.ownBlock ≠ some E := fun hv => by
    obtain ⟨-, cur, hh⟩ := own_elem h2' hv
    have := heap_lt hh
    omega
  refine (sadd_ok w (c := c) (ss := [o]) h1 rfl ⟨by decide, by decide⟩ rfl h2 h3 h.lws hE hne (by simpa using hn)).mono ?_
  rintro e w' ⟨rfl, cs', v', xs', hr⟩
  refine ⟨rfl, ?_⟩
  have hcs : cs' = _ := sch_set _ _ _ _ _ _ _ _ _ hr.at_ hr.rest
  have tp : Tp w (K :: v.ownBlock.toList) [64, 116] := fun x hx => by
    rcases List.mem_cons.1 hx with rfl | hx
    · exact ⟨_, _, h1, by simp⟩
    · obtain ⟨-, cur, hh⟩ := own_elem h2 (show v.ownBlock = some x by simpa using hx)
      exact ⟨_, _, hh, by simp⟩
  have hl : ∀ x ∈ K :: v.ownBlock.toList, lw ≤ x := fun x hx => by
    rcases List.mem_cons.1 hx with rfl | hx
    · exact h.lwK
    · exact (own_elem h2 (show v.ownBlock = some x by simpa using hx)).1
  have hst := h.sto
  refine ⟨h.lul, h.luS, h.lwK, Nat.le_trans h.lws hr.chg.size, h.up.then hr.chg (fun x hx _ => Nat.le_trans h.lul (hl x hx)), hst.keepA hr.chg (tp.av (by decide)) (tp.map hst.mx.ver.m) (tp.map hst.mx.book.2) (tp.map hst.mx.map), ⟨hr.chg.heap h.sh.1 ((tp.av (ts' := [37]) (by decide)).ne h.sh.1 (by simp)), own_chgB h.sh.2 hr.chg (fun g hg => ?_)⟩, v', xs', by rw [← hcs]; exact hr.blk, hr.own, hr.ops⟩
  obtain ⟨-, cur, hh⟩ := own_elem h.sh.2 hg
  exact (tp.av (ts' := [5]) (by decide)).ne hh (by simp)
end
end Go.Proofs.YtgagcbgbjkjghaaGreatDoor
namespace Go.Proofs.YtgagcbgbjkjghaaGreatDoor
open Go.RowKit Go.Lib

/-- a device's block: its geometry and its zones. -/
def Hdr (w : World) (N : Nat) : Prop := ∃ cs A c, w.heap[N]? = some (.cells cs 78 (0, 0)) ∧ cs[0]? = some (.int .i64 8) ∧ cs[1]? = some (.int .i64 96) ∧ cs[2]? = some (.slice (some ⟨A, 0, none⟩) 8 c) ∧ (∃ b, cs[5]? = some (.bool b)) ∧ ∃ k, cs[6]? = some (.int .i64 k)
theorem Hdr.keep {w w' : World} {N : Nat} (h : Hdr w N) (hc : Chg [] w w') : Hdr w' N := by
  obtain ⟨cs, A, c, h1, h2⟩ := h
  exact ⟨cs, A, c, hc.heap h1 (by simp), h2⟩
set_option maxRecDepth 100000 in
theorem gone_hdr (w : World) {N : Nat} (h : Hdr w N) : Calls Tryz.prog 83 #[.pointer (some ⟨N, 0, none⟩)] w fun e w' => e = .returned (.bool false) ∧ w = w' := by
  obtain ⟨cs, A, c, h1, -, -, h2, -⟩ := h
  have e2 : w.cell? ⟨N, 2, none⟩ = some (.slice (some ⟨A, 0, none⟩) 8 c) := cell_is h1 2 h2
  clear h1 h2
  go_enter Tryz.func83, Tryz.ntmps83
  go_wp2_with fail
  go_ret
  exact ⟨rfl, rfl⟩
set_option maxRecDepth 100000 in
theorem geom_hd (w : World) {N : Nat} (h : Hdr w N) : Calls Tryz.prog 37 #[.pointer (some ⟨N, 0, none⟩)] w fun e w' => e = .returned (.agg #[.int .i64 8, .int .i64 96]) ∧ Chg [] w w' := by
  have g0 := heap_new w (.cells #[.int .i64 0, .int .i64 0] 42)
  have hc : Chg [] w (w.alloc (.cells #[.int .i64 0, .int .i64 0] 42)) := Chg.alloc _ _
  have HG := Lib.hid (gone_hdr _ (h.keep hc))
  have H2 := Lib.hid (h.keep hc)
  clear h
  go_enter Tryz.func37, Tryz.ntmps37
  go_wp2_with fail
  generalize w.alloc (.cells #[.int .i64 0, .int .i64 0] 42) = w1 at *
  refine HG.out.mono ?_
  rintro e w2 ⟨rfl, rfl⟩
  obtain ⟨cs, A, c, h1, h2, h3, -⟩ := H2.out
  have e0 : w1.cell? ⟨N, 0, none⟩ = some (.int .i64 8) := cell_is h1 0 h2
  have e1 : w1.cell? ⟨N, 1, none⟩ = some (.int .i64 96) := cell_is h1 1 h3
  have c0 := cell_is g0 0 rfl
  have c1 := cell_is g0 1 rfl
  have f0 := unfrozen g0 0
  have f1 := unfrozen g0 1
  clear h1 h2 h3 g0
  go_wp2_with fail
  refine bodyPost_ret (v := .agg #[.int .i64 8, .int .i64 96]) (by simp [results, Tryz.results37, go_sem, c0, c1]) rfl ?_
  exact ⟨rfl, (hc.new_set (by omega) _ _).new_set (by omega) _ _⟩
/-- what a store that did nothing says of itself. -/
structure Qt (w : World) (K N P : Nat) : Prop where
  sch : ∃ cs, w.heap[K]? = some (.cells cs 64 (0, 0)) ∧ cs[0]? = some (.pointer (some ⟨N, 0, none⟩)) ∧ cs[1]? = some (.pointer (some ⟨P, 0, none⟩))
  hdr : Hdr w N
  blk : ∃ cs ms M X B rb last, w.heap[P]? = some (.cells cs 91 (0, 0)) ∧ cs[0]? = some (.pointer (some ⟨N, 0, none⟩)) ∧ cs[5]? = some (.pointer (some ⟨M, 0, none⟩)) ∧ w.heap[M]? = some (.cells ms 179 (0, 0)) ∧ ms[0]? = some (.pointer (some ⟨X, 0, none⟩)) ∧ ms[1]? = some (.pointer (some ⟨B, 0, none⟩)) ∧
    ms[3]? = some (.slice none 0 0) ∧ ms[7]? = some (.int .i64 0) ∧ BookAt w B rb last []
theorem Qt.p0 {w : World} {K N P : Nat} (h : Qt w K N P) : w.cell? ⟨P, 0, none⟩ = some (.pointer (some ⟨N, 0, none⟩)) := by
  obtain ⟨cs, ms, M, X, B, rb, last, h1, h2, -⟩ := h.blk
  exact cell_is h1 0 h2
theorem Qt.mgr {w : World} {K N P : Nat} (h : Qt w K N P) : ∃ M X B rb last, w.cell? ⟨P, 5, none⟩ = some (.pointer (some ⟨M, 0, none⟩)) ∧ w.cell? ⟨M, 0, none⟩ = some (.pointer (some ⟨X, 0, none⟩)) ∧ w.cell? ⟨M, 1, none⟩ = some (.pointer (some ⟨B, 0, none⟩)) ∧ w.cell? ⟨M, 3, none⟩ = some (.slice none 0 0) ∧ w.cell? ⟨M, 7, none⟩ = some (.int .i64 0) ∧ BookAt w B rb last [] := by
  obtain ⟨cs, ms, M, X, B, rb, last, h1, h2, h3, h4, h5, h6, h7, h8, h9⟩ := h.blk
  exact ⟨M, X, B, rb, last, cell_is h1 5 h3, cell_is h4 0 h5, cell_is h4 1 h6, cell_is h4 3 h7, cell_is h4 7 h8, h9⟩
theorem Qt.chg {w w' : World} {U : List Nat} {K N P : Nat} (h : Qt w K N P) (hc : Chg U w w') (hU : Av w U [64, 91, 179, 234]) (hm : ∀ r L, MapAt w r L → r ∉ U) (hd : Hdr w' N) : Qt w' K N P := by
  obtain ⟨ks, k1, k2⟩ := h.sch
  obtain ⟨cs, ms, M, X, B, rb, last, h1, h2, h3, h4, h5, h6, h7, h8, h9⟩ := h.blk
  exact ⟨⟨ks, hc.heap k1 (hU.ne k1 (by simp)), k2⟩, hd, cs, ms, M, X, B, rb, last, hc.heap h1 (hU.ne h1 (by simp)), h2, h3, hc.heap h4 (hU.ne h4 (by simp)), h5, h6, h7, h8, hc.heap h9.1 (hU.ne h9.1 (by simp)), h9.2.keep hc (hm _ _ h9.2)⟩
theorem Qt.keep {w w' : World} {K N P : Nat} (h : Qt w K N P) (hc : Chg [] w w') : Qt w' K N P := h.chg hc (Av.nil _ _) (fun _ _ _ => by simp) (h.hdr.keep hc)
/-- .. where a line is said. -/
theorem Qt.say {w w' : World} {lo S K N P : Nat} {c : UInt8} {cs : Array Value} (h : Qt w K N P) (hc : SayC lo S c w w') (hS : w.heap[S]? = some (.cells cs 37 (0, 0))) : Qt w' K N P := by
  obtain ⟨U, k, hU⟩ := hc
  have av : ∀ ts : List Nat, 37 ∉ ts → 5 ∉ ts → Av w U ts := fun ts h37 h5 x hx cs2 t fr hh => by
    rcases hU x hx (heap_lt hh) with rfl | ⟨-, cs3, e1, -⟩
    · rw [hS] at hh
      cases hh
      exact h37
    · rw [e1] at hh
      cases hh
      exact h5
  refine h.chg k (av _ (by decide) (by decide)) (fun r L hm hr => ?_) ?_
  · rcases hU r hr hm.lt with rfl | ⟨-, cs3, e1, -⟩
    · exact map_cells hm hS rfl
    · exact map_cells hm e1 rfl
  · obtain ⟨ds, A, c', d1, d2⟩ := h.hdr
    exact ⟨ds, A, c', k.heap d1 ((av [78] (by decide) (by decide)).ne d1 (by simp)), d2⟩
set_option maxRecDepth 100000 in
theorem mgone_c (w : World) {M X : Nat} (m0 : w.cell? ⟨M, 0, none⟩ = some (.pointer (some ⟨X, 0, none⟩))) : Calls Tryz.prog 97 #[.pointer (some ⟨M, 0, none⟩)] w fun e w' => e = .returned (.bool false) ∧ w = w' := by
  go_enter Tryz.func97, Tryz.ntmps97
  go_wp2_with fail
  go_ret
  exact ⟨rfl, rfl⟩
set_option maxRecDepth 100000 in
theorem qlast (w : World) {K N P : Nat} (h : Qt w K N P) : Calls Tryz.prog 69 #[.pointer (some ⟨P, 0, none⟩)] w fun e w' => e = .returned (.int .i64 0) ∧ w = w' := by
  obtain ⟨M, X, B, rb, last, m1, m2, m3, m4, m5, m6⟩ := h.mgr
  exact last_ok w m1 m2 m5
set_option maxRecDepth 100000 in
theorem qqueue (w : World) {K N P : Nat} (h : Qt w K N P) : Calls Tryz.prog 71 #[.pointer (some ⟨P, 0, none⟩)] w fun e w' => e = .returned (.int .i64 0) ∧ w = w' := by
  obtain ⟨M, X, B, rb, last, m1, m2, m3, m4, m5, m6⟩ := h.mgr
  have HM := Lib.hid (mgr_of w m1)
  have HG := Lib.hid (mgone_c w m2)
  clear h m1 m2 m3 m5 m6
  have HQ : Hid (Calls Tryz.prog 137 #[.pointer (some ⟨M, 0, none⟩)] w fun e w' => e = .returned (.int .i64 0) ∧ w = w') := Lib.hid (by
    go_enter Tryz.func137, Tryz.ntmps137
    go_wp2_with fail
    refine HG.out.mono ?_
    rintro e w1 ⟨rfl, rfl⟩
    go_wp2_with fail
    go_ret
    exact ⟨rfl, rfl⟩)
  go_enter Tryz.func71, Tryz.ntmps71
  go_wp2_with fail
  refine HM.out.mono ?_
  rintro e w1 ⟨rfl, rfl⟩
  go_wp2_with fail
  refine HQ.out.mono ?_
  rintro e w1 ⟨rfl, rfl⟩
  go_wp2_with fail
  go_ret
  exact ⟨rfl, rfl⟩
set_option maxRecDepth 100000 in
theorem qopen (w : World) {K N P : Nat} (h : Qt w K N P) : Calls Tryz.prog 70 #[.pointer (some ⟨P, 0, none⟩)] w fun e w' => e = .returned (.int .i64 0) ∧ Chg [] w w' := by
  obtain ⟨M, X, B, rb, last, m1, m2, m3, m4, m5, m6⟩ := h.mgr
  have HM := Lib.hid (mgr_of w m1)
  have HG := Lib.hid (mgone_c w m2)
  have HC := Lib.hid (count_none w m6)
  clear h m1 m2 m4 m5 m6
  have HQ : Hid (Calls Tryz.prog 136 #[.pointer (some ⟨M, 0, none⟩)] w fun e w' => e = .returned (.int .i64 0) ∧ Chg [] w w') := Lib.hid (by
    go_enter Tryz.func136, Tryz.ntmps136
    go_wp2_with fail
    refine HG.out.mono ?_
    rintro e w1 ⟨rfl, rfl⟩
    go_wp2_with fail
    refine HC.out.mono ?_
    rintro e w1 ⟨rfl, k1⟩
    have HK := Lib.hid k1
    clear k1
    go_wp2_with fail
    go_ret
    exact ⟨rfl, HK.out⟩)
  go_enter Tryz.func70, Tryz.ntmps70
  go_wp2_with fail
  refine HM.out.mono ?_
  rintro e w1 ⟨rfl, rfl⟩
  go_wp2_with fail
  refine HQ.out.mono ?_
  rintro e w1 ⟨rfl, k1⟩
  have HK := Lib.hid k1
  clear k1
  go_wp2_with fail
  go_ret
  exact ⟨rfl, HK.out⟩
set_option maxRecDepth 100000 in
theorem qblocks (w : World) {K N P : Nat} (h : Qt w K N P) : Calls Tryz.prog 72 #[.pointer (some ⟨P, 0, none⟩)] w fun e w' => e = .returned (.int .i64 258) ∧ Chg [] w w' := by
  have c0 := h.p0
  have HG := Lib.hid (geom_hd w h.hdr)
  clear h
  go_enter Tryz.func72, Tryz.ntmps72
  go_wp2_with fail
  refine HG.out.mono ?_
  rintro e w1 ⟨rfl, hc1⟩
  have HK := Lib.hid hc1
  clear hc1
  go_wp2_with fail
  refine (cap_min w1).mono ?_
  rintro e w2 ⟨rfl, hc2⟩
  have HK2 := Lib.hid hc2
  clear hc2
  go_wp2_with fail
  go_ret
  exact ⟨rfl, HK.out.then HK2.out⟩
set_option maxRecDepth 100000 in
theorem qstore (w : World) {K N P : Nat} (h : Qt w K N P) : Calls Tryz.prog 65 #[.pointer (some ⟨K, 0, none⟩)] w fun e w' => e = .returned (.pointer (some ⟨P, 0, none⟩)) ∧ w = w' := by
  obtain ⟨cs, h1, h2, h3⟩ := h.sch
  have HG := Lib.hid (sgone_any w h1 h3)
  have c1 := cell_is h1 1 h3
  clear h h1 h2 h3
  go_enter Tryz.func65, Tryz.ntmps65
  go_wp2_with fail
  refine HG.out.mono ?_
  rintro e w1 ⟨rfl, rfl⟩
  go_wp2_with fail
  go_ret
  exact ⟨rfl, rfl⟩
set_option maxRecDepth 100000 in
theorem qcut (w : World) {K N P : Nat} {n : Int} (hn : 0 ≤ n) (h : Qt w K N P) : Calls Tryz.prog 74 #[.pointer (some ⟨K, 0, none⟩), .int .i64 n] w fun e w' => e = .returned (.tuple #[]) ∧ Chg [N] w w' ∧ Qt w' K N P := by
  have HQt := Lib.hid h
  obtain ⟨cs, h1, h2, h3⟩ := h.sch
  have HG := Lib.hid (sgone_any w h1 h3)
  have HD := Lib.hid (gone_hdr w h.hdr)
  have c0 := cell_is h1 0 h2
  obtain ⟨ds, A, c, d1, d2, d3, d4, ⟨b, d5⟩, k, d6⟩ := h.hdr
  have e4 := cell_is d1 5 d5
  have e5 := cell_is d1 6 d6
  have f4 := unfrozen d1 5
  have f5 := unfrozen d1 6
  have HX := Lib.hid (And.intro d1 (And.intro d2 (And.intro d3 (And.intro d4 (And.intro d5 d6)))))
  have n1 : ¬ (n < 0) := by omega
  have n2 : decide (n < 0) = false := decide_eq_false n1
  clear h h1 h2 h3 d1 d2 d3 d4 d5 d6
  have HZ : Hid (Calls Tryz.prog 140 #[.pointer (some ⟨N, 0, none⟩), .int .i64 n] w fun e w' => e = .returned (.tuple #[]) ∧ Chg [N] w w' ∧ Hdr w' N) := Lib.hid (by
    go_enter Tryz.func140, Tryz.ntmps140
    go_wp2_with fail
    refine HD.out.mono ?_
    rintro e w1 ⟨rfl, rfl⟩
    go_wp2_with fail
    refine bodyPost_end (v := .tuple #[]) (by simp [results, Tryz.results140, go_sem]) rfl ?_
    obtain ⟨d1, d2, d3, d4, d5, d6⟩ := HX.out
    have hl5 : 5 < ds.size := (Array.getElem?_eq_some_iff.1 d5).1
    have hl6 : 6 < ds.size := (Array.getElem?_eq_some_iff.1 d6).1
    refine ⟨rfl, (Chg.set _ _ _ _).then (Chg.set _ _ _ _), (ds.setIfInBounds 5 (.bool true)).setIfInBounds 6 (.int .i64 (max n 0)), A, c, heap_set (heap_set d1 5 _ rfl) 6 _ rfl, ?_, ?_, ?_, ⟨true, ?_⟩, max n 0, ?_⟩
    · rw [Array.getElem?_setIfInBounds_ne (by decide), Array.getElem?_setIfInBounds_ne (by decide)]; exact d2
    · rw [Array.getElem?_setIfInBounds_ne (by decide), Array.getElem?_setIfInBounds_ne (by decide)]; exact d3
    · rw [Array.getElem?_setIfInBounds_ne (by decide), Array.getElem?_setIfInBounds_ne (by decide)]; exact d4
    · rw [Array.getElem?_setIfInBounds_ne (by decide), Array.getElem?_setIfInBounds_self_of_lt hl5]
    · rw [Array.getElem?_setIfInBounds_self_of_lt (by rw [Array.size_setIfInBounds]; exact hl6)])
  go_enter Tryz.func74, Tryz.ntmps74
  go_wp2_with fail
  refine HG.out.mono ?_
  rintro e w1 ⟨rfl, rfl⟩
  go_wp2_with fail
  refine HZ.out.mono ?_
  rintro e w1 ⟨rfl, k1, q1⟩
  have HF := Lib.hid (And.intro k1 q1)
  clear k1 q1
  go_wp2_with fail
  refine bodyPost_end (v := .tuple #[]) (by simp [results, Tryz.results74, go_sem]) rfl ?_
  refine ⟨rfl, HF.out.1, HQt.out.chg HF.out.1 (Av.row HX.out.1 (by decide)) (fun r L hm hr => ?_) HF.out.2⟩
  rw [List.mem_singleton] at hr
  exact map_cells hm HX.out.1 hr
end Go.Proofs.YtgagcbgbjkjghaaGreatDoor
namespace Go.Proofs.YtgagcbgbjkjghaaGreatDoor
open Go.RowKit Go.Lib

/-- the line that a new store is told by. -/
def statW : List (List UInt8) := [[108, 97, 115, 116], [48], [111, 112, 101, 110], [48], [113, 117, 101, 117, 101], [48], [98, 108, 111, 99, 107, 115], [50, 53, 56]]
def statC : Array Value := #[.string ⟨#[108, 97, 115, 116]⟩, .string ⟨#[48]⟩, .string ⟨#[111, 112, 101, 110]⟩, .string ⟨#[48]⟩, .string ⟨#[113, 117, 101, 117, 101]⟩, .string ⟨#[48]⟩, .string ⟨#[98, 108, 111, 99, 107, 115]⟩, .string ⟨#[50, 53, 56]⟩]
theorem it0 : Lib.itoa 0 = [48] := by kernel_rfl
theorem it258 : Lib.itoa 258 = [50, 53, 56] := by kernel_rfl
theorem itoa_0 (w : World) (hG : Scr.Gl w) : Calls Tryz.prog 57 #[.int .i64 0] w fun e w' => e = .returned (.string ⟨#[48]⟩) ∧ Chg [] w w' :=
  (Scr.itoa_any 0 w (by decide) (by decide) hG).mono (fun e w' h => ⟨by rw [h.1, it0], Chg.of_below h.2⟩)
theorem itoa_258 (w : World) (hG : Scr.Gl w) : Calls Tryz.prog 57 #[.int .i64 258] w fun e w' => e = .returned (.string ⟨#[50, 53, 56]⟩) ∧ Chg [] w w' :=
  (Scr.itoa_any 258 w (by decide) (by decide) hG).mono (fun e w' h => ⟨by rw [h.1, it258], Chg.of_below h.2⟩)
set_option maxRecDepth 100000 in
set_option maxHeartbeats 4000000 in
theorem bare_stat (w : World) {S K N P lo : Nat} {ov : Value} {ol : List UInt8} {c : UInt8} {r0 : List UInt8} (hG : Scr.Gl w) (hsh : Sh w S K lo ov ol) (hq : Qt w K N P) (hl : ol.length ≤ 100000) (hlo : lo ≤ w.heap.size) (hc : ol ++ Lib.join statW [32] = c :: r0) (hl0 : ol = [] → ov = .slice none 0 0) :
    Calls Tryz.prog 30 #[.pointer (some ⟨S, 0, none⟩), .string ⟨#[115, 116, 97, 116]⟩] w fun e w' => e = .returned (.bool true) ∧ ∃ ov', Sh w' S K lo ov' (ol ++ (Lib.join statW [32] ++ [10])) ∧ SayC lo S c w w' := by
  have s0 := cell_is hsh.1 0 rfl
  have HS := Lib.hid (qstore w hq)
  have HL := Lib.hid (qlast w hq)
  have H0 := Lib.hid (itoa_0 w hG)
  have HX := Lib.hid (And.intro hG (And.intro hsh (And.intro hq (And.intro hl (And.intro hlo (And.intro hc hl0))))))
  clear hG hsh hq hl hlo hc hl0
  go_enter Tryz.func30, Tryz.ntmps30
  go_wp2_with fail
  refine HS.out.mono ?_
  rintro e w1 ⟨rfl, rfl⟩
  go_wp2_with fail
  refine HL.out.mono ?_
  rintro e w1 ⟨rfl, rfl⟩
  go_wp2_with fail
  refine H0.out.mono ?_
  rintro e w1 ⟨rfl, k1⟩
  have q1 := HX.out.2.2.1.keep k1
  have H1 := Lib.hid (qopen w1 q1)
  have HK1 := Lib.hid k1
  clear k1 q1 H0 s0
  go_wp2_with fail
  refine H1.out.mono ?_
  rintro e w2 ⟨rfl, k2⟩
  have HK2 := Lib.hid (HK1.out.then k2)
  have H2 := Lib.hid (itoa_0 w2 (HX.out.1.keep HK2.out.below0))
  clear k2 H1 HK1
  go_wp2_with fail
  refine H2.out.mono ?_
  rintro e w3 ⟨rfl, k3⟩
  have HK3 := Lib.hid (HK2.out.then k3)
  have H3 := Lib.hid (qqueue w3 (HX.out.2.2.1.keep HK3.out))
  have H3b := Lib.hid (itoa_0 w3 (HX.out.1.keep HK3.out.below0))
  clear k3 H2 HK2
  go_wp2_with fail
  refine H3.out.mono ?_
  rintro e w4 ⟨rfl, rfl⟩
  go_wp2_with fail
  refine H3b.out.mono ?_
  rintro e w4 ⟨rfl, k4⟩
  have HK4 := Lib.hid (HK3.out.then k4)
  have H4 := Lib.hid (qblocks w4 (HX.out.2.2.1.keep HK4.out))
  clear k4 H3 H3b HK3
  go_wp2_with fail
  refine H4.out.mono ?_
  rintro e w5 ⟨rfl, k5⟩
  have HK5 := Lib.hid (HK4.out.then k5)
  have H5 := Lib.hid (itoa_258 w5 (HX.out.1.keep HK5.out.below0))
  clear k5 H4 HK4
  go_wp2_with fail
  refine H5.out.mono ?_
  rintro e w6 ⟨rfl, k6⟩
  have HK6 := Lib.hid (HK5.out.then k6)
  have k7 : Chg [] w6 (w6.alloc (.cells statC 9)) := Chg.alloc w6 _
  have y7 := heap_new w6 (.cells statC 9)
  have ho := own_words (ws := statW) y7 rfl rfl (by decide)
  obtain ⟨-, sh, -, hl, hlo, hc, hl0⟩ := HX.out
  have k67 := HK6.out.then k7
  have sh7 : Sh (w6.alloc (.cells statC 9)) S K lo ov ol := ⟨k67.heap sh.1 (by simp), own_keep sh.2 k67.below0⟩
  have HSay := Lib.hid (say_any _ sh7 ho (by decide) (by decide) (by decide) (by omega) (Nat.le_trans hlo k67.size) (c := c) (r0 := r0) hc hl0)
  have HK7 := Lib.hid k67
  clear k6 H5 HK5 k7 y7 ho sh hl hlo hc hl0 k67 sh7
  go_wp2_with fail
  refine HSay.out.mono ?_
  rintro e w8 ⟨rfl, ov', hs8, hc8⟩
  have HF := Lib.hid (And.intro hs8 hc8)
  clear hs8 hc8
  go_wp2_with fail
  go_ret
  exact ⟨rfl, ov', HF.out.1, SayC.pre HK7.out HF.out.2⟩
set_option maxRecDepth 100000 in
theorem bare_x (w : World) {S : Nat} : Calls Tryz.prog 30 #[.pointer (some ⟨S, 0, none⟩), .string ⟨#[120]⟩] w fun e w' => e = .returned (.bool false) ∧ w = w' := by
  go_enter Tryz.func30, Tryz.ntmps30
  go_wp2_with fail
  go_ret
  exact ⟨rfl, rfl⟩
set_option maxRecDepth 100000 in
set_option maxHeartbeats 2000000 in
/-- a line of one word. -/
theorem line_bare (w : World) {S : Nat} {l wd : List UInt8} {b : Bool} {Q : World → Prop} (hG : Scr.Gl w) (hlen : l.length ≤ 1000) (hl : Lib.hasPrefix l opP = false) (hw : words l = [wd])
    (h1 : (wd == [99, 114, 97, 115, 104]) = false) (h2 : (wd == [116, 101, 97, 114]) = false)
    (HO : ∀ wx, Chg [] w wx → Calls Tryz.prog 30 #[.pointer (some ⟨S, 0, none⟩), .string ⟨wd.toArray⟩] wx fun e w' => e = .returned (.bool b) ∧ Q w') :
    Calls Tryz.prog 15 #[.pointer (some ⟨S, 0, none⟩), .string ⟨l.toArray⟩] w fun e w' => e = .returned (.bool b) ∧ Q w' := by
  have HC : Hid (Calls Tryz.prog 24 #[.string ⟨l.toArray⟩, .string ⟨#[111, 112, 32]⟩] w fun e w' => e = .returned (.tuple #[.string ⟨(Lib.trimPrefix l opP).toArray⟩, .bool false]) ∧ w' = w) := Lib.hid (by
    have h := cutp w l
    rw [hl] at h
    exact h)
  have HSp : Hid (Calls Tryz.prog 26 #[.string ⟨l.toArray⟩, .string ⟨#[32]⟩] w fun e w' => e = .returned (.slice (some ⟨w.heap.size, 0, none⟩) 1 1) ∧ w' = w.alloc (.cells #[.string ⟨wd.toArray⟩] 9)) := Lib.hid (by
    have h := Scr.split_any ⟨l.toArray⟩ w (by show l.toArray.size < _; simp; omega) hG
    rw [show (⟨l.toArray⟩ : ByteArray).data.toList = l by simp, hw] at h
    exact h)
  have k1 : Chg [] w (w.alloc (.cells #[.string ⟨wd.toArray⟩] 9)) := Chg.alloc w _
  have y1 := heap_new w (.cells #[.string ⟨wd.toArray⟩] 9)
  have HOh := Lib.hid HO
  have HN := Lib.hid (fun (b off c : Nat) => nums_none (w.alloc (.cells #[.string ⟨wd.toArray⟩] 9)) (b := b) (off := off) (c := c) (hG.keep k1.below0))
  have c0 := cell_is y1 0 rfl
  have HK := Lib.hid k1
  clear hG hlen hl hw HO k1 y1
  go_enter Tryz.func15, Tryz.ntmps15
  go_wp2_with fail
  refine HC.out.mono ?_
  rintro e w1 ⟨rfl, rfl⟩
  go_wp2_with fail
  refine HSp.out.mono ?_
  rintro e w2 ⟨rfl, rfl⟩
  go_wp2_with fail
  refine (HN.out _ _ _).mono ?_
  rintro e w3 ⟨p, c', rfl, k3⟩
  have c3 := k3.cell c0 (by simp)
  have HO3 := Lib.hid (HOh.out w3 (HK.out.then k3))
  clear k3 c0
  go_wp2_with fail
  refine HO3.out.mono ?_
  rintro e w4 ⟨rfl, hq⟩
  have HQ := Lib.hid hq
  clear hq
  go_wp2_with fail
  go_ret
  exact ⟨rfl, HQ.out⟩
set_option maxRecDepth 100000 in
set_option maxHeartbeats 2000000 in
/-- a line whose second word is no number. -/
theorem line_bad (w : World) {S : Nat} {l wd nw : List UInt8} {r : List (List UInt8)} (hG : Scr.Gl w) (hlen : l.length ≤ 1000) (hl : Lib.hasPrefix l opP = false) (hw : words l = wd :: nw :: r) (hwl : ∀ x ∈ nw :: r, x.length ≤ 1000000) (hr : r.length ≤ 100) (hn : numF nw = none) :
    Calls Tryz.prog 15 #[.pointer (some ⟨S, 0, none⟩), .string ⟨l.toArray⟩] w fun e w' => e = .returned (.bool false) ∧ Chg [] w w' := by
  have HC : Hid (Calls Tryz.prog 24 #[.string ⟨l.toArray⟩, .string ⟨#[111, 112, 32]⟩] w fun e w' => e = .returned (.tuple #[.string ⟨(Lib.trimPrefix l opP).toArray⟩, .bool false]) ∧ w' = w) := Lib.hid (by
    have h := cutp w l
    rw [hl] at h
    exact h)
  obtain ⟨n, hn2⟩ : ∃ n, n = r.length := ⟨_, rfl⟩
  have HSp : Hid (Calls Tryz.prog 26 #[.string ⟨l.toArray⟩, .string ⟨#[32]⟩] w fun e w' => e = .returned (.slice (some ⟨w.heap.size, 0, none⟩) (n + 2) (n + 2)) ∧ w' = w.alloc (.cells (strCells (wd :: nw :: r)).toArray 9)) := Lib.hid (by
    have h := Scr.split_any ⟨l.toArray⟩ w (by show l.toArray.size < _; simp; omega) hG
    rw [show (⟨l.toArray⟩ : ByteArray).data.toList = l by simp, hw] at h
    rw [hn2]
    exact h)
  have k1 : Chg [] w (w.alloc (.cells (strCells (wd :: nw :: r)).toArray 9)) := Chg.alloc w _
  have y1 := heap_new w (.cells (strCells (wd :: nw :: r)).toArray 9)
  have HN := Lib.hid (nums_bad _ (b := w.heap.size) (off := 1) (c := n + 1) (n := n + 1) (wd := nw) (r := r) (hG.keep k1.below0) (by rw [hn2]) (fun j hj => by
    refine cell_is y1 _ ?_
    rw [List.getElem?_toArray]
    unfold strCells
    rw [List.getElem?_map, Nat.add_comm, List.getElem?_cons_succ, List.getElem?_eq_getElem hj]
    rfl) hwl hr hn)
  have HK := Lib.hid k1
  have hn100 : n ≤ 100 := by omega
  generalize w.alloc (.cells (strCells (wd :: nw :: r)).toArray 9) = wS at *
  clear hG hlen hl hw k1 y1 hwl hr hn hn2
  go_enter Tryz.func15, Tryz.ntmps15
  go_wp2_with fail
  refine HC.out.mono ?_
  rintro e w1 ⟨rfl, rfl⟩
  go_wp2_with fail
  refine HSp.out.mono ?_
  rintro e w2 ⟨rfl, rfl⟩
  go_wp2_with fail
  refine HN.out.mono ?_
  rintro e w3 ⟨rfl, k3⟩
  have HK3 := Lib.hid (HK.out.then k3)
  clear k3
  go_wp2_with fail
  go_ret
  exact ⟨rfl, HK3.out⟩
end Go.Proofs.YtgagcbgbjkjghaaGreatDoor
namespace Go.Proofs.YtgagcbgbjkjghaaGreatDoor
open Go.Lib

/-- how many of the first i bytes end a line, or the text. -/
def kAt (l : List UInt8) (i : Nat) : Nat := (List.range i).countP fun j => l[j]? == some 10 || j + 1 == l.length
theorem kAt_zero (l : List UInt8) : kAt l 0 = 0 := rfl
theorem kAt_succ (l : List UInt8) (i : Nat) : kAt l (i + 1) = kAt l i + (if l[i]? == some 10 || i + 1 == l.length then 1 else 0) := by
  unfold kAt
  rw [List.range_succ, List.countP_append, List.countP_singleton]
theorem kAt_le (l : List UInt8) (i : Nat) : kAt l i ≤ i := by
  unfold kAt
  have := List.countP_le_length (p := fun j => l[j]? == some 10 || j + 1 == l.length) (l := List.range i)
  simpa using this
/-- how many lines a text has. -/
def linesN (l : List UInt8) : Nat := countByte l 10 + (if l ≠ [] ∧ l.getLast? ≠ some 10 then 1 else 0)
theorem kAt_count_n : ∀ (n : Nat) (l t : List UInt8), l.length = n → t ≠ [] → kAt (l ++ t) l.length = countByte l 10 := by
  intro n
  induction n with
  | zero =>
    intro l t hl _
    obtain rfl := List.eq_nil_of_length_eq_zero hl
    rfl
  | succ n ih =>
    intro l' t hl ht
    rcases List.eq_nil_or_concat l' with rfl | ⟨l, c, rfl⟩
    · cases hl
    rw [List.concat_eq_append] at hl ⊢
    rw [List.length_append, List.length_singleton] at hl
    rw [List.length_append, List.length_singleton, kAt_succ, List.append_assoc, ih l _ (by omega) (by simp)]
    have h1 : (l ++ ([c] ++ t))[l.length]? = some c := by rw [List.getElem?_append_right (Nat.le_refl _)]; simp
    have h2 : (l.length + 1 == (l ++ ([c] ++ t)).length) = false := by
      have : 0 < t.length := List.length_pos_iff.2 ht
      simp
      omega
    rw [h1, h2]
    unfold countByte
    rw [List.count_append, List.count_singleton]
    by_cases hc : c = 10
    · simp [hc]
    · simp [hc]
theorem kAt_count (l t : List UInt8) (ht : t ≠ []) : kAt (l ++ t) l.length = countByte l 10 := kAt_count_n _ l t rfl ht
theorem kAt_all (l : List UInt8) : kAt l l.length = linesN l := by
  rcases List.eq_nil_or_concat l with rfl | ⟨l, c, rfl⟩
  · rfl
  · rw [List.concat_eq_append, List.length_append, List.length_singleton, kAt_succ, kAt_count l [c] (by simp)]
    have h1 : (l ++ [c])[l.length]? = some c := by rw [List.getElem?_append_right (Nat.le_refl _)]; simp
    have h2 : (l.length + 1 == (l ++ [c]).length) = true := by simp
    rw [h1, h2]
    unfold linesN countByte
    rw [List.count_append, List.count_singleton]
    by_cases hc : c = 10
    · simp [hc]
    · simp [hc]
end Go.Proofs.YtgagcbgbjkjghaaGreatDoor
namespace Go.Proofs.YtgagcbgbjkjghaaGreatDoor
open Go.RowKit Go.Lib

theorem StA.qt {w0 w : World} {lu lw S K : Nat} {d : Ids} {ops : Int} {ov : Value} {ol : List UInt8} {ss : List OpS} (h : StA w0 lu lw S K d ops ov ol ss w) : Qt w K d.N d.P := by
  obtain ⟨v, xs, h1, -⟩ := h.row
  have hs := h.sto
  exact ⟨⟨_, h1, rfl, rfl⟩, ⟨_, d.A, d.c, hs.dev.hdr, rfl, rfl, rfl, ⟨_, rfl⟩, _, rfl⟩, _, _, d.M, d.X, d.B, d.rb, _, hs.store, rfl, rfl, hs.mx.mgr, rfl, rfl, rfl, rfl, hs.mx.book⟩
set_option maxRecDepth 100000 in
theorem single_cut (w : World) {S K N P lo : Nat} {n : Int} {ov : Value} {ol : List UInt8} {r0 : List UInt8} (hn : 0 ≤ n) (hsh : Sh w S K lo ov ol) (hq : Qt w K N P) (hl : ol.length ≤ 100000) (hlo : lo ≤ w.heap.size) (hc : ol ++ [111, 107] = 111 :: r0) (hl0 : ol = [] → ov = .slice none 0 0) :
    Calls Tryz.prog 31 #[.pointer (some ⟨S, 0, none⟩), .string ⟨#[99, 117, 116]⟩, .int .i64 n] w fun e w' => e = .returned (.bool true) ∧ ∃ w2 ov', Chg [N] w w2 ∧ Sh w2 S K lo ov ol ∧ Qt w2 K N P ∧ SayC lo S 111 w2 w' ∧ Sh w' S K lo ov' (ol ++ [111, 107, 10]) := by
  have s0 := cell_is hsh.1 0 rfl
  have HC := Lib.hid (qcut w hn hq)
  have HX := Lib.hid (And.intro hsh (And.intro hq (And.intro hl (And.intro hlo (And.intro hc hl0)))))
  clear hsh hq hl hlo hc hl0
  go_enter Tryz.func31, Tryz.ntmps31
  go_wp2_with fail
  refine HC.out.mono ?_
  rintro e w2 ⟨rfl, k2, q2⟩
  obtain ⟨hsh, hq, hl, hlo, hc, hl0⟩ := HX.out
  obtain ⟨ds, A, c, d1, -⟩ := hq.hdr
  have sh2 : Sh w2 S K lo ov ol := ⟨k2.heap hsh.1 ((Av.row d1 (ts := [37]) (by decide)).ne hsh.1 (by simp)), own_chgB hsh.2 k2 (fun g hg => by
    obtain ⟨-, cur, hh⟩ := own_elem hsh.2 hg
    exact (Av.row d1 (ts := [5]) (by decide)).ne hh (by simp))⟩
  have HD := Lib.hid (done_ok w2 sh2 (by omega) (Nat.le_trans hlo k2.size) hc hl0)
  have HF := Lib.hid (And.intro k2 (And.intro sh2 q2))
  clear hsh hq hl hlo hc hl0 d1 sh2 k2 q2 s0
  go_wp2_with fail
  refine HD.out.mono ?_
  rintro e w3 ⟨rfl, ov', hs3, hc3⟩
  have HG := Lib.hid (And.intro hc3 hs3)
  clear hs3 hc3
  go_wp2_with fail
  go_ret
  exact ⟨rfl, w2, ov', HF.out.1, HF.out.2.1, HF.out.2.2, HG.out⟩
/-- what is said of a line that is none. -/
def errW : List UInt8 := [101, 114, 114, 111, 114, 32, 49]
/-- a line that was none goes on with the rest. -/
def ErrK (S K lo : Nat) (I : List UInt8 → World → Prop) (rest : List UInt8) (w : World) : Prop :=
  ∃ ov ol c r0, Sh w S K lo ov ol ∧ ol.length ≤ 100000 ∧ lo ≤ w.heap.size ∧ ol ++ errW = c :: r0 ∧ (ol = [] → ov = .slice none 0 0) ∧ ∀ w2 ov', SayC lo S c w w2 → Sh w2 S K lo ov' (ol ++ (errW ++ [10])) → I rest w2
/-- a line's answer. -/
def LineR (S K lo : Nat) (I : List UInt8 → World → Prop) (rest : List UInt8) (e : Ending) (w' : World) : Prop := ∃ b, e = .returned (.bool b) ∧ (b = true → I rest w') ∧ (b = false → ErrK S K lo I rest w')
/-- how a script goes on. -/
structure Script (w : World) (S K lo : Nat) (fin : List UInt8) (I : List UInt8 → World → Prop) : Prop where
  keep : ∀ r a b, I r a → Chg [] a b → I r b
  gl : ∀ r x, I r x → Scr.Gl x
  line : ∀ r x, I r x → r ≠ [] → r.length ≤ 100000 ∧ ∃ c0 l rest fl, Lib.cut r [10] = (c0 :: l, rest, fl) ∧ c0 ≠ 35 ∧ rest.length < r.length ∧ Calls Tryz.prog 15 #[.pointer (some ⟨S, 0, none⟩), .string ⟨(c0 :: l).toArray⟩] x (LineR S K lo I rest)
  last : ∀ x, I [] x → ∃ ov, Sh x S K lo ov fin ∧ Chg [] w x
theorem byte_ne {a : UInt8} {n : Nat} (h : a ≠ UInt8.ofNat n) (hn : n < 256) : (((a.toNat : Nat) : Int) == (n : Int)) = false := beq_eq_false_iff_ne.2 (fun e => h (UInt8.toNat.inj (by rw [UInt8.toNat_ofNat']; omega)))
set_option maxRecDepth 100000 in
set_option maxHeartbeats 4000000 in
theorem play_any (w : World) {text : List UInt8} {fin : List UInt8} (hG : Scr.Gl w) (hne : text ≠ []) (hlen : text.length ≤ 100000) (hlines : linesN text ≤ 10000)
    (hP : ∀ lw K d ops w1, StA w w.heap.size lw w.heap.size K d ops (.slice none 0 0) [] [] w1 → (0 ≤ ops ∧ ops ≤ 2) → ∃ I, I text w1 ∧ Script w w.heap.size K lw fin I) :
    Calls Tryz.prog 9 #[.string ⟨text.toArray⟩] w fun e w' => e = .returned (.string ⟨fin.toArray⟩) ∧ Chg [] w w' := by
  have HP := Lib.hid hP
  have HI := Lib.hid (And.intro hG (And.intro hlen hlines))
  have hCnt := Lib.hid (fun wx => Tryz.strings_Count_one ⟨text.toArray⟩ 10 wx)
  obtain ⟨t0, z, rfl⟩ : ∃ t0 z, text = t0 ++ [z] := ⟨text.dropLast, text.getLast hne, (List.dropLast_concat_getLast hne).symm⟩
  have hlc : (t0 ++ [z]).length = t0.length + 1 := by simp
  clear hG hlen hlines hP hne
  go_enter Tryz.func9, Tryz.ntmps9
  go_wp2_with fail
  go_step3
  go_wp2_with fail
  have k0 : Chg [] w (w.alloc (.cells #[.pointer none, .slice none 0 0] 37)) := Chg.alloc w _
  have y0 := heap_new w (.cells #[.pointer none, .slice none 0 0] 37)
  have hsz0 : (w.alloc (.cells #[.pointer none, .slice none 0 0] 37)).heap.size = w.heap.size + 1 := by simp
  generalize w.alloc (.cells #[.pointer none, .slice none 0 0] 37) = w1 at *
  refine (snew_any w1).mono ?_
  rintro e w2 ⟨K, d, ops, rfl, k2, lK, hS, hops, hB⟩
  have y2 := k2.heap y0 (by simp)
  have s0 := cell_is y2 0 rfl
  have f0 := unfrozen y2 0
  have HN := Lib.hid (And.intro (k0.then k2) (And.intro lK (And.intro hS (And.intro hops (And.intro hB (And.intro y2 k2.size))))))
  have HZ := Lib.hid hsz0
  clear k0 y0 k2 lK hS hops hB y2 hsz0
  have n1 : decide ((262144 : Int) < ((t0.length : Int) + 1)) = false := decide_eq_false (by have := HI.out.2.1; rw [hlc] at this; omega)
  go_wp2_with fail
  have hStA : StA w w.heap.size w1.heap.size w.heap.size K d ops (.slice none 0 0) [] [] (w2.setCell ⟨w.heap.size, 0, none⟩ (.pointer (some ⟨K, 0, none⟩))) := by
    obtain ⟨k02, lK, hS, hops, hB, y2, hs12⟩ := HN.out
    have kS : Chg [w.heap.size] w2 (w2.setCell ⟨w.heap.size, 0, none⟩ (.pointer (some ⟨K, 0, none⟩))) := Chg.set _ _ _ _
    have tp : Tp w2 [w.heap.size] [37] := fun x hx => by
      rw [List.mem_singleton] at hx
      subst hx
      exact ⟨_, _, y2, by simp⟩
    have hz := HZ.out
    exact ⟨by omega, Nat.le_refl _, lK, Nat.le_trans hs12 kS.size, (Up.of0 k02).then kS (fun x hx _ => by rw [List.mem_singleton] at hx; omega), hS.keepA kS (tp.av (by decide)) (tp.map hS.mx.ver.m) (tp.map hS.mx.book.2) (tp.map hS.mx.map), ⟨heap_set y2 0 _ rfl, World.ownsRow_nil _ _ _ _⟩, _, [], kS.heap hB ((tp.av (ts' := [64]) (by decide)).ne hB (by simp)), World.ownsRow_nil _ _ _ _, rfl⟩
  obtain ⟨I, hI0, hScr⟩ := HP.out _ _ _ _ _ hStA HN.out.2.2.2.1
  generalize w2.setCell ⟨w.heap.size, 0, none⟩ (.pointer (some ⟨K, 0, none⟩)) = w3 at *
  have HS := Lib.hid (And.intro hI0 hScr)
  clear hStA hI0 hScr s0 f0
  refine (hCnt.out w3).mono ?_
  rintro e w4 ⟨rfl, rfl⟩
  obtain ⟨cn, hcn⟩ : ∃ cn, cn = Lib.countByte (t0 ++ [z]) 10 := ⟨_, rfl⟩
  rw [← hcn]
  have hln : linesN (t0 ++ [z]) = cn + (if z = 10 then 0 else 1) := by
    unfold linesN
    rw [← hcn]
    simp
  have HCn := Lib.hid (And.intro hcn hln)
  clear hcn hln
  have hbl : t0.length + 1 ≤ 100000 := by have := HI.out.2.1; rw [hlc] at this; exact this
  have hw : wrap64 (t0.length : Int) = (t0.length : Int) := by unfold wrap64; omega
  have hix : (⟨(t0 ++ [z]).toArray⟩ : ByteArray)[t0.length]'(by show t0.length < (t0 ++ [z]).toArray.size; simp) = z := by
    show (t0 ++ [z]).toArray[t0.length]'_ = z
    simp
  have hne : ((t0 ++ [z]).isEmpty) = false := by simp
  have hnb : ∃ u : Bool, (((z.toNat : Nat) : Int) != 10) = u ∧ (u = true ↔ z ≠ 10) := ⟨_, rfl, by
    rw [bne_iff_ne]
    constructor
    · intro h e
      subst e
      exact h rfl
    · intro h e
      exact h (UInt8.toNat.inj (by have : z.toNat = 10 := by omega
                                   rw [this]; rfl))⟩
  obtain ⟨u, hu, hu2⟩ := hnb
  have HU := Lib.hid hu2
  clear hu2
  cases u with
  | false =>
    have n2 : decide ((10000 : Int) < (cn : Int)) = false := decide_eq_false (by have h1 := HCn.out.2; have h2 := HI.out.2.2; rw [h1] at h2; split at h2 <;> omega)
    go_wp2_with fail
    clear hw hix hne hu n2 n1
    go_step3
    go_wp2_with fail
    go_loopw [0, 5, 6, 7] (fun t _ _ _ wr => ∃ r : List UInt8, t = .string ⟨r.toArray⟩ ∧ I r wr) (fun t _ _ _ _ => match t with | .string x => x.size | _ => 0)
    case atStart => exact ⟨_, rfl, HS.out.1⟩
    case round =>
      obtain ⟨r, rfl, hI⟩ := hrel
      by_cases hr : r = []
      · subst hr
        obtain ⟨ov, hsh, hk⟩ := HS.out.2.last _ hI
        have hcv := own_convert (src := 23) (dst := 9) (e := 5) ty23b ty5b ty9b hsh.2
        have t1 := cell_is hsh.1 1 rfl
        obtain ⟨po, co, rfl, -⟩ := own_form hsh.2
        have HF := Lib.hid hk
        clear hsh hk hI
        go_wp2_with fail
        rw [Exit.noGoto_ret]
        go_ret
        exact ⟨rfl, HF.out⟩
      · obtain ⟨hrl, c0, l, rest, fl, hcut, h35, hlt, hline⟩ := HS.out.2.line _ _ hI hr
        have hgl := HS.out.2.gl _ _ hI
        have HCu : Hid (Calls Tryz.prog 14 #[.string ⟨r.toArray⟩, .string ⟨#[10]⟩] wr fun e w' => e = .returned (.tuple #[.string ⟨(c0 :: l).toArray⟩, .string ⟨rest.toArray⟩, .bool fl]) ∧ ∃ n, w' = wr.drewN n) := Lib.hid (by
          have h9 := Scr.cut_any r 10 wr hgl hrl
          rw [hcut] at h9
          exact h9)
        have hre : r.isEmpty = false := by cases r <;> simp at hr ⊢
        have hix0 : (⟨(c0 :: l).toArray⟩ : ByteArray)[0]'(by show 0 < (c0 :: l).toArray.size; simp) = c0 := rfl
        have h35' : (((c0.toNat : Nat) : Int) == 35) = false := byte_ne (n := 35) h35 (by decide)
        have HL := Lib.hid (And.intro hI (And.intro hr (And.intro hcut hlt)))
        clear hI hr hcut hlt hline hrl hgl h35
        go_wp2_with fail
        refine HCu.out.mono ?_
        rintro e w5 ⟨rfl, n5, rfl⟩
        have hI5 := HS.out.2.keep _ _ _ HL.out.1 ((Chg.refl [] wr).drewN n5)
        obtain ⟨-, c0', l', rest', fl', hcut', -, -, hline⟩ := HS.out.2.line _ _ hI5 HL.out.2.1
        rw [HL.out.2.2.1] at hcut'
        cases hcut'
        have HLi := Lib.hid hline
        clear hI5 hline
        go_wp2_with fail
        refine HLi.out.mono ?_
        rintro e w6 ⟨b, rfl, hb1, hb2⟩
        cases b with
        | true =>
          have HR := Lib.hid (hb1 rfl)
          clear hb1 hb2
          go_wp2_with fail
          go_roundw
          case rel => exact ⟨rest, rfl, HR.out⟩
          case measure =>
            have h1 := HL.out.2.2.2
            show rest.toArray.size < r.toArray.size
            simpa using h1
        | false =>
          obtain ⟨ov6, ol6, c6, r6, sh6, ll6, lo6, hc6, hl6, hcont⟩ := hb2 rfl
          have k7 : Chg [] w6 (w6.alloc (.cells #[.string ⟨#[101, 114, 114, 111, 114, 32, 49]⟩] 9)) := Chg.alloc w6 _
          have y7 := heap_new w6 (.cells #[.string ⟨#[101, 114, 114, 111, 114, 32, 49]⟩] 9)
          have ho := own_words (ws := [errW]) y7 rfl rfl (by decide)
          have sh7 : Sh (w6.alloc (.cells #[.string ⟨#[101, 114, 114, 111, 114, 32, 49]⟩] 9)) w.heap.size K w1.heap.size ov6 ol6 := ⟨k7.heap sh6.1 (by simp), own_keep sh6.2 k7.below0⟩
          have HSay := Lib.hid (say_any _ sh7 ho (by decide) (by decide) (by decide) (by omega) (Nat.le_trans lo6 k7.size) (c := c6) (r0 := r6) hc6 hl6)
          have HR := Lib.hid (And.intro k7 hcont)
          clear hb1 hb2 sh6 ll6 lo6 hc6 hl6 hcont k7 y7 ho sh7
          go_wp2_with fail
          refine HSay.out.mono ?_
          rintro e w8 ⟨rfl, ov', hs8, hc8⟩
          have HR2 := Lib.hid (HR.out.2 w8 ov' (SayC.pre HR.out.1 hc8) hs8)
          clear hs8 hc8
          go_wp2_with fail
          go_roundw
          case rel => exact ⟨rest, rfl, HR2.out⟩
          case measure =>
            have h1 := HL.out.2.2.2
            show rest.toArray.size < r.toArray.size
            simpa using h1
  | true =>
    have hw2 : wrap64 ((cn : Int) + 1) = (cn : Int) + 1 := by unfold wrap64; have h1 := HCn.out.2; have h2 := HI.out.2.2; rw [h1] at h2; omega
    have n2 : decide ((10000 : Int) < (cn : Int) + 1) = false := decide_eq_false (by have h1 := HCn.out.2; have h2 := HI.out.2.2; rw [h1, if_neg (HU.out.1 rfl)] at h2; omega)
    go_wp2_with fail
    clear hw hix hne hu n2 n1 hw2
    go_step3
    go_wp2_with fail
    go_loopw [0, 5, 6, 7] (fun t _ _ _ wr => ∃ r : List UInt8, t = .string ⟨r.toArray⟩ ∧ I r wr) (fun t _ _ _ _ => match t with | .string x => x.size | _ => 0)
    case atStart => exact ⟨_, rfl, HS.out.1⟩
    case round =>
      obtain ⟨r, rfl, hI⟩ := hrel
      by_cases hr : r = []
      · subst hr
        obtain ⟨ov, hsh, hk⟩ := HS.out.2.last _ hI
        have hcv := own_convert (src := 23) (dst := 9) (e := 5) ty23b ty5b ty9b hsh.2
        have t1 := cell_is hsh.1 1 rfl
        obtain ⟨po, co, rfl, -⟩ := own_form hsh.2
        have HF := Lib.hid hk
        clear hsh hk hI
        go_wp2_with fail
        rw [Exit.noGoto_ret]
        go_ret
        exact ⟨rfl, HF.out⟩
      · obtain ⟨hrl, c0, l, rest, fl, hcut, h35, hlt, hline⟩ := HS.out.2.line _ _ hI hr
        have hgl := HS.out.2.gl _ _ hI
        have HCu : Hid (Calls Tryz.prog 14 #[.string ⟨r.toArray⟩, .string ⟨#[10]⟩] wr fun e w' => e = .returned (.tuple #[.string ⟨(c0 :: l).toArray⟩, .string ⟨rest.toArray⟩, .bool fl]) ∧ ∃ n, w' = wr.drewN n) := Lib.hid (by
          have h9 := Scr.cut_any r 10 wr hgl hrl
          rw [hcut] at h9
          exact h9)
        have hre : r.isEmpty = false := by cases r <;> simp at hr ⊢
        have hix0 : (⟨(c0 :: l).toArray⟩ : ByteArray)[0]'(by show 0 < (c0 :: l).toArray.size; simp) = c0 := rfl
        have h35' : (((c0.toNat : Nat) : Int) == 35) = false := byte_ne (n := 35) h35 (by decide)
        have HL := Lib.hid (And.intro hI (And.intro hr (And.intro hcut hlt)))
        clear hI hr hcut hlt hline hrl hgl h35
        go_wp2_with fail
        refine HCu.out.mono ?_
        rintro e w5 ⟨rfl, n5, rfl⟩
        have hI5 := HS.out.2.keep _ _ _ HL.out.1 ((Chg.refl [] wr).drewN n5)
        obtain ⟨-, c0', l', rest', fl', hcut', -, -, hline⟩ := HS.out.2.line _ _ hI5 HL.out.2.1
        rw [HL.out.2.2.1] at hcut'
        cases hcut'
        have HLi := Lib.hid hline
        clear hI5 hline
        go_wp2_with fail
        refine HLi.out.mono ?_
        rintro e w6 ⟨b, rfl, hb1, hb2⟩
        cases b with
        | true =>
          have HR := Lib.hid (hb1 rfl)
          clear hb1 hb2
          go_wp2_with fail
          go_roundw
          case rel => exact ⟨rest, rfl, HR.out⟩
          case measure =>
            have h1 := HL.out.2.2.2
            show rest.toArray.size < r.toArray.size
            simpa using h1
        | false =>
          obtain ⟨ov6, ol6, c6, r6, sh6, ll6, lo6, hc6, hl6, hcont⟩ := hb2 rfl
          have k7 : Chg [] w6 (w6.alloc (.cells #[.string ⟨#[101, 114, 114, 111, 114, 32, 49]⟩] 9)) := Chg.alloc w6 _
          have y7 := heap_new w6 (.cells #[.string ⟨#[101, 114, 114, 111, 114, 32, 49]⟩] 9)
          have ho := own_words (ws := [errW]) y7 rfl rfl (by decide)
          have sh7 : Sh (w6.alloc (.cells #[.string ⟨#[101, 114, 114, 111, 114, 32, 49]⟩] 9)) w.heap.size K w1.heap.size ov6 ol6 := ⟨k7.heap sh6.1 (by simp), own_keep sh6.2 k7.below0⟩
          have HSay := Lib.hid (say_any _ sh7 ho (by decide) (by decide) (by decide) (by omega) (Nat.le_trans lo6 k7.size) (c := c6) (r0 := r6) hc6 hl6)
          have HR := Lib.hid (And.intro k7 hcont)
          clear hb1 hb2 sh6 ll6 lo6 hc6 hl6 hcont k7 y7 ho sh7
          go_wp2_with fail
          refine HSay.out.mono ?_
          rintro e w8 ⟨rfl, ov', hs8, hc8⟩
          have HR2 := Lib.hid (HR.out.2 w8 ov' (SayC.pre HR.out.1 hc8) hs8)
          clear hs8 hc8
          go_wp2_with fail
          go_roundw
          case rel => exact ⟨rest, rfl, HR2.out⟩
          case measure =>
            have h1 := HL.out.2.2.2
            show rest.toArray.size < r.toArray.size
            simpa using h1
end Go.Proofs.YtgagcbgbjkjghaaGreatDoor
namespace Go.Proofs.YtgagcbgbjkjghaaGreatDoor
open Go.RowKit Go.Lib

def tA0 : List UInt8 := [111, 112, 32, 49, 32, 98, 101, 103, 105, 110, 10, 111, 112, 32, 49, 32, 119, 114, 105, 116, 101, 32, 48, 32, 53, 32, 102, 102, 10, 111, 112, 32, 49, 32, 99, 111, 109, 109, 105, 116, 32, 48, 10, 114, 117, 110, 32, 49, 10]
def tA1 : List UInt8 := [111, 112, 32, 49, 32, 119, 114, 105, 116, 101, 32, 48, 32, 53, 32, 102, 102, 10, 111, 112, 32, 49, 32, 99, 111, 109, 109, 105, 116, 32, 48, 10, 114, 117, 110, 32, 49, 10]
def tA2 : List UInt8 := [111, 112, 32, 49, 32, 99, 111, 109, 109, 105, 116, 32, 48, 10, 114, 117, 110, 32, 49, 10]
def tA3 : List UInt8 := [114, 117, 110, 32, 49, 10]
/-- the block that the script writes. -/
def rA : List UInt8 := 255 :: List.replicate 39 0
def oA1 : OpS := ⟨1, 0, 0, 0, none⟩
def oA2 : OpS := ⟨3, 0, 0, 0, some (5, rA)⟩
def oA3 : OpS := ⟨4, 0, 0, 0, none⟩
theorem cutA0 : Lib.cut tA0 [10] = ([111, 112, 32, 49, 32, 98, 101, 103, 105, 110], tA1, true) := by kernel_rfl
theorem cutA1 : Lib.cut tA1 [10] = ([111, 112, 32, 49, 32, 119, 114, 105, 116, 101, 32, 48, 32, 53, 32, 102, 102], tA2, true) := by kernel_rfl
theorem cutA2 : Lib.cut tA2 [10] = ([111, 112, 32, 49, 32, 99, 111, 109, 109, 105, 116, 32, 48], tA3, true) := by kernel_rfl
theorem cutA3 : Lib.cut tA3 [10] = ([114, 117, 110, 32, 49], [], true) := by kernel_rfl
theorem preA0 : Lib.hasPrefix [111, 112, 32, 49, 32, 98, 101, 103, 105, 110] opP = true := by kernel_rfl
theorem trimA0 : Lib.trimPrefix [111, 112, 32, 49, 32, 98, 101, 103, 105, 110] opP = [49, 32, 98, 101, 103, 105, 110] := by kernel_rfl
theorem cutB0 : Lib.cut [49, 32, 98, 101, 103, 105, 110] [32] = ([49], [98, 101, 103, 105, 110], true) := by kernel_rfl
theorem parseB0 : Scr.parseA [98, 101, 103, 105, 110] = some (oA1.k, oA1.h, oA1.a, oA1.l, oA1.p.toList) := by kernel_rfl
theorem preA1 : Lib.hasPrefix [111, 112, 32, 49, 32, 119, 114, 105, 116, 101, 32, 48, 32, 53, 32, 102, 102] opP = true := by kernel_rfl
theorem trimA1 : Lib.trimPrefix [111, 112, 32, 49, 32, 119, 114, 105, 116, 101, 32, 48, 32, 53, 32, 102, 102] opP = [49, 32, 119, 114, 105, 116, 101, 32, 48, 32, 53, 32, 102, 102] := by kernel_rfl
theorem cutB1 : Lib.cut [49, 32, 119, 114, 105, 116, 101, 32, 48, 32, 53, 32, 102, 102] [32] = ([49], [119, 114, 105, 116, 101, 32, 48, 32, 53, 32, 102, 102], true) := by kernel_rfl
theorem parseB1 : Scr.parseA [119, 114, 105, 116, 101, 32, 48, 32, 53, 32, 102, 102] = some (oA2.k, oA2.h, oA2.a, oA2.l, oA2.p.toList) := by kernel_rfl
theorem preA2 : Lib.hasPrefix [111, 112, 32, 49, 32, 99, 111, 109, 109, 105, 116, 32, 48] opP = true := by kernel_rfl
theorem trimA2 : Lib.trimPrefix [111, 112, 32, 49, 32, 99, 111, 109, 109, 105, 116, 32, 48] opP = [49, 32, 99, 111, 109, 109, 105, 116, 32, 48] := by kernel_rfl
theorem cutB2 : Lib.cut [49, 32, 99, 111, 109, 109, 105, 116, 32, 48] [32] = ([49], [99, 111, 109, 109, 105, 116, 32, 48], true) := by kernel_rfl
theorem parseB2 : Scr.parseA [99, 111, 109, 109, 105, 116, 32, 48] = some (oA3.k, oA3.h, oA3.a, oA3.l, oA3.p.toList) := by kernel_rfl
theorem num1 : numF [49] = some 1 := by kernel_rfl
theorem preA3 : Lib.hasPrefix [114, 117, 110, 32, 49] opP = false := by kernel_rfl
theorem wordsA3 : words [114, 117, 110, 32, 49] = [[114, 117, 110], [49]] := by kernel_rfl
def okT : List UInt8 := [111, 107, 10]
def bT : List UInt8 := [98, 101, 103, 105, 110, 32, 48, 32, 111, 107, 32, 97, 116, 32, 48]
def wT : List UInt8 := [119, 114, 105, 116, 101, 32, 48, 32, 111, 107]
theorem ansB : Scr.ansT 1 0 0 0 [] = bT := by kernel_rfl
theorem ansW : Scr.ansT 3 0 0 0 [] = wT := by kernel_rfl
theorem noA : NoO rA := ⟨by decide, by decide⟩
theorem preX : Lib.hasPrefix [120] opP = false := by kernel_rfl
theorem wordsX : words [120] = [[120]] := by kernel_rfl
theorem cutX : Lib.cut [120] [10] = ([120], [], false) := by kernel_rfl
def finA : List UInt8 := [111, 107, 10, 111, 107, 10, 111, 107, 10, 98, 101, 103, 105, 110, 32, 48, 32, 111, 107, 32, 97, 116, 32, 48, 10, 119, 114, 105, 116, 101, 32, 48, 32, 111, 107, 10, 119, 97, 105, 116, 10]
theorem finA_is : ((okT ++ okT ++ okT) ++ (bT ++ [10])) ++ (wT ++ [10]) ++ [119, 97, 105, 116, 10] = finA := by kernel_rfl
theorem linesA : linesN tA0 ≤ 10000 := by decide
end Go.Proofs.YtgagcbgbjkjghaaGreatDoor
namespace Go.Proofs.YtgagcbgbjkjghaaGreatDoor
open Go.RowKit Go.Lib

theorem Up.gl {w0 w : World} (h : Up w0.heap.size w0 w) (hG : Scr.Gl w0) : Scr.Gl w := by
  obtain ⟨U, h1, h2⟩ := h
  exact hG.keep ((Chg.mono (T := []) h1 (fun x hx hl => by have := h2 x hx hl; omega)).below0)
section
variable {w0 w : World} {lw S K : Nat} {d : Ids} {ops : Int} {ov : Value} {ol : List UInt8} {ss : List OpS}
theorem StA.gl (h : StA w0 w0.heap.size lw S K d ops ov ol ss w) (hG : Scr.Gl w0) : Scr.Gl w := h.up.gl hG
/-- what an op's line leaves. -/
def OpR (w0 : World) (lu lw S K : Nat) (d : Ids) (ops : Int) (ol : List UInt8) (ss : List OpS) (e : Ending) (w' : World) : Prop := e = .returned (.bool true) ∧ ∃ ov', StA w0 lu lw S K d ops ov' (ol ++ [111, 107, 10]) ss w'
set_option maxRecDepth 100000 in
set_option maxHeartbeats 4000000 in
theorem op_add {t wd tx : List UInt8} {o : OpS} (h : StA w0 w0.heap.size lw S K d ops ov ol ss w) (hG : Scr.Gl w0) (ht : t.length ≤ 1000) (hcut : Lib.cut t [32] = (wd, tx, true)) (hnum : numF wd = some 1) (hwl : wd.length ≤ 1000) (htl : tx.length ≤ 1000)
    (hp : Scr.parseA tx = some (o.k, o.h, o.a, o.l, o.p.toList)) (hwc : (words tx).length ≤ 100000) (hk : o.p = none → o.k ≠ 3) (hss : ∀ s ∈ ss ++ [o], OpO s) (hsn : ss.length + 1 ≤ 200) (hol : ol.length ≤ 100000) {r0 : List UInt8} (hc : ol ++ [111, 107] = 111 :: r0) (hl0 : ol = [] → ov = .slice none 0 0) :
    Calls Tryz.prog 25 #[.pointer (some ⟨S, 0, none⟩), .string ⟨t.toArray⟩] w (OpR w0 w0.heap.size lw S K d ops ol (ss ++ [o])) := by
  have HCu : Hid (Calls Tryz.prog 14 #[.string ⟨t.toArray⟩, .string ⟨#[32]⟩] w fun e w' => e = .returned (.tuple #[.string ⟨wd.toArray⟩, .string ⟨tx.toArray⟩, .bool true]) ∧ ∃ n, w' = w.drewN n) := Lib.hid (by
    have := Scr.cut_any t 32 w (h.gl hG) (by omega)
    rw [hcut] at this
    exact this)
  have HH := Lib.hid h
  clear h
  go_enter Tryz.func25, Tryz.ntmps25
  go_wp2_with fail
  refine HCu.out.mono ?_
  rintro e w1 ⟨rfl, n1, rfl⟩
  go_wp2_with fail
  have k1 : Chg [] w (w.drewN n1) := (Chg.refl [] w).drewN n1
  have k2 : Chg [] w ((w.drewN n1).alloc (.cells #[.string ⟨wd.toArray⟩] 9)) := k1.then_alloc _
  have y2 : ((w.drewN n1).alloc (.cells #[.string ⟨wd.toArray⟩] 9)).heap[w.heap.size]? = _ := heap_new (w.drewN n1) (.cells #[.string ⟨wd.toArray⟩] 9)
  generalize (w.drewN n1).alloc (.cells #[.string ⟨wd.toArray⟩] 9) = w2 at *
  have H2 := Lib.hid (HH.out.keep k2)
  refine (nums_one w2 (H2.out.gl hG) (cell_is y2 0 rfl) (by omega) hnum).mono ?_
  rintro e w3 ⟨g3, c3, rfl, k3, t3⟩
  have H3 := Lib.hid (H2.out.keep k3)
  have HCl := Lib.hid (client_is w3 1 ⟨by decide, by decide⟩)
  have HP : Hid (Calls Tryz.prog 53 #[.string ⟨tx.toArray⟩] w3 (Scr.ParseR w3 (some (o.k, o.h, o.a, o.l, o.p.toList)))) := Lib.hid (by
    have h9 := Scr.parse_any ⟨tx.toArray⟩ w3 (H3.out.gl hG) (by show tx.toArray.size ≤ _; simp; omega) (by simpa using hwc)
    rw [show (⟨tx.toArray⟩ : ByteArray).data.toList = tx by simp, hp] at h9
    exact h9)
  clear k1 k2 y2 k3
  go_wp2_with fail
  refine HCl.out.mono ?_
  rintro e w4 ⟨rfl, rfl⟩
  go_wp2_with fail
  refine HP.out.mono ?_
  rintro e w5 ⟨hb5, pa, m, c, rfl, hm, hmc, hps, hk3⟩
  have k5 : Chg [] w3 w5 := Chg.of_below hb5
  have t5 := k5.cell t3 (by simp)
  have H5 := H3.out.keep k5
  have k6 : Chg [] w5 (w5.alloc (.cells #[.int .i64 0, .int .i64 0, .int .i64 0, .int .i64 0, .slice none 0 0] 116)) := Chg.alloc w5 _
  have y6 := heap_new w5 (.cells #[.int .i64 0, .int .i64 0, .int .i64 0, .int .i64 0, .slice none 0 0] 116)
  have d0 := cell_is y6 0 rfl
  have d1 := cell_is y6 1 rfl
  have d2 := cell_is y6 2 rfl
  have d3 := cell_is y6 3 rfl
  have d4 := cell_is y6 4 rfl
  have e0 := unfrozen y6 0
  have e1 := unfrozen y6 1
  have e2 := unfrozen y6 2
  have e3 := unfrozen y6 3
  have e4 := unfrozen y6 4
  have HQ := Lib.hid (And.intro hm (And.intro hmc (And.intro hps (And.intro hk3 (And.intro H5 (And.intro k6 (And.intro y6 t5)))))))
  clear hm hmc hps hk3 H5 k6 y6 k5 hb5 t3
  go_upto_region 6 with fail
  clear d0 d1 d2 d3 d4 e0 e1 e2 e3 e4
  have k6 : Chg [] w5 (w5.alloc (.cells #[.int .i64 o.k, .int .i64 o.h, .int .i64 o.a, .int .i64 o.l, .slice pa m c] 116)) := Chg.alloc w5 _
  have y6 := heap_new w5 (.cells #[.int .i64 o.k, .int .i64 o.h, .int .i64 o.a, .int .i64 o.l, .slice pa m c] 116)
  generalize w5.alloc (.cells #[.int .i64 o.k, .int .i64 o.h, .int .i64 o.a, .int .i64 o.l, .slice pa m c] 116) = w6 at *
  generalize hB5 : w5.heap.size = B5 at *
  have kd : Chg [] w5 w6.drew := k6.drew
  have H6 := Lib.hid (HQ.out.2.2.2.2.1.keep kd)
  have t6 := k6.cell t5 (by simp)
  have s6 : w6.cell? ⟨S, 0, none⟩ = some (.pointer (some ⟨K, 0, none⟩)) := cell_is (HQ.out.2.2.2.2.1.keep k6).sh.1 0 rfl
  have b0 := cell_is y6 0 rfl
  have b1 := cell_is y6 1 rfl
  have b2 := cell_is y6 2 rfl
  have b3 := cell_is y6 3 rfl
  have b4 := cell_is y6 4 rfl
  have HB6 := Lib.hid (And.intro kd (And.intro hB5 y6))
  have s6d : w6.drew.cell? ⟨S, 0, none⟩ = some (.pointer (some ⟨K, 0, none⟩)) := s6
  have t6d : w6.drew.cell? ⟨g3, 0, none⟩ = some (.int .i64 1) := t6
  have b0d : w6.drew.cell? ⟨B5, 0, none⟩ = some (.int .i64 o.k) := b0
  have b1d : w6.drew.cell? ⟨B5, 1, none⟩ = some (.int .i64 o.h) := b1
  have b2d : w6.drew.cell? ⟨B5, 2, none⟩ = some (.int .i64 o.a) := b2
  have b3d : w6.drew.cell? ⟨B5, 3, none⟩ = some (.int .i64 o.l) := b3
  have b4d : w6.drew.cell? ⟨B5, 4, none⟩ = some (.slice pa m c) := b4
  have kA0 : Chg [] w6 (w6.alloc (.cells #[.int .i64 o.k, .int .i64 o.h, .int .i64 o.a, .int .i64 o.l, .slice pa m c] 116)).drew := (Chg.alloc w6 _).drew
  have kA : Chg [] w6.drew _ := ⟨kA0.os, kA0.tape, kA0.output, kA0.size, kA0.block⟩
  have yA : (w6.alloc (.cells #[.int .i64 o.k, .int .i64 o.h, .int .i64 o.a, .int .i64 o.l, .slice pa m c] 116)).drew.heap[w6.heap.size]? = _ := heap_new w6 (.cells #[.int .i64 o.k, .int .i64 o.h, .int .i64 o.a, .int .i64 o.l, .slice pa m c] 116)
  have sA := kA.cell s6d (by simp)
  have tA := kA.cell t6d (by simp)
  have k5A : Chg [] w5 _ := HB6.out.1.then kA
  have hE : OpsG (w6.alloc (.cells #[.int .i64 o.k, .int .i64 o.h, .int .i64 o.a, .int .i64 o.l, .slice pa m c] 116)).drew w6.heap.size [o] := by
    refine ⟨⟨_, yA⟩, fun i s hs => ?_⟩
    match i with
    | 0 =>
      cases hs
      refine ⟨[.int .i64 o.k, .int .i64 o.h, .int .i64 o.a, .int .i64 o.l, .slice pa m c], ⟨.slice pa m c, rfl, ?_⟩, fun j y hy => ?_⟩
      · obtain ⟨hm, hmc, hps, hk3, -⟩ := HQ.out
        cases hop : o.p with
        | none =>
          rw [hop] at hm hk
          obtain ⟨rfl, rfl⟩ := hk3 (hk rfl)
          cases hm
          exact Or.inl ⟨rfl, rfl⟩
        | some bl =>
          obtain ⟨b, dl⟩ := bl
          rw [hop] at hm hps
          rcases hps with hn | ⟨g, cs, rfl, hg, hj⟩
          · cases hn
          · obtain ⟨e1, D, e2, e3, e4⟩ := hj 0 (by simp)
            cases hm
            have hg' := k5A.heap hg (by simp)
            have hD' := k5A.heap e3 (by simp)
            refine Or.inr ⟨b, dl, g, 0, c, D, 40, rfl, rfl, cell_is hg' 0 e1, cell_is hg' 1 e2, ?_, e4, _, _, hg', hD'⟩
            exact Or.inr ⟨D, 0, rfl, heap_lt hD', fun i hi => cell_is hD' _ (by simp [Lib.byteCells, hi])⟩
      · match j with
        | 0 => cases hy; exact cell_is yA 0 rfl
        | 1 => cases hy; exact cell_is yA 1 rfl
        | 2 => cases hy; exact cell_is yA 2 rfl
        | 3 => cases hy; exact cell_is yA 3 rfl
        | 4 => cases hy; exact cell_is yA 4 rfl
        | j + 5 => simp at hy
    | i + 1 => simp at hs
  have HAd := Lib.hid (StA.add (c := 1) HQ.out.2.2.2.2.1 k5A hE (by have h1 := HB6.out.1.size; exact h1) hsn)
  clear k6 y6 t5 kd hB5 k5A hE kA0 yA
  go_wp2_with fail
  have bA0 := kA.cell b0d (by simp)
  have bA1 := kA.cell b1d (by simp)
  have bA2 := kA.cell b2d (by simp)
  have bA3 := kA.cell b3d (by simp)
  have bA4 := kA.cell b4d (by simp)
  go_region_law
    (first
      | (go_simp; go_at_call 54; refine HAd.out.mono ?_; rintro e w8 ⟨rfl, h8⟩))
  all_goals
    have HDn := Lib.hid (done_ok w8 h8.sh (by omega) h8.lws hc hl0)
    have H8 := Lib.hid h8
    clear h8
    go_wp2_with fail
    refine HDn.out.mono ?_
    rintro e w9 ⟨rfl, ov', hs9, hc9⟩
    have H9 := Lib.hid (H8.out.say hc9 hs9 hss)
    clear hs9 hc9
    go_wp2_with fail
    go_ret
    exact ⟨rfl, ov', H9.out⟩
end
end Go.Proofs.YtgagcbgbjkjghaaGreatDoor
namespace Go.Proofs.YtgagcbgbjkjghaaGreatDoor
open Go.RowKit Go.Lib

theorem Up.say {lu lo S : Nat} {c : UInt8} {a b d : World} (h : Up lu a b) (k : SayC lo S c b d) (h1 : lu ≤ S) (h2 : lu ≤ lo) : Up lu a d := by
  obtain ⟨U, k1, k2⟩ := k
  refine h.then k1 (fun x hx hl => ?_)
  rcases k2 x hx hl with rfl | ⟨e, -⟩
  · exact h1
  · omega
theorem Bas.say {w0 w w' : World} {lu lw C K g E D cE cD : Nat} {ov ov' : Value} {ol ol' : List UInt8} {r : List UInt8} (h : Bas w0 lu lw C K ov ol g E D cE cD r w) (hc : SayC lw C 111 w w') (hs : Sh w' C K lw ov' ol') (hr : NoO r) (hC : lu ≤ C) : Bas w0 lu lw C K ov' ol' g E D cE cD r w' := by
  obtain ⟨U, k, hU, hlo, hm⟩ := hc.parts h.wd
  exact ⟨h.lul, h.up.say hc hC h.lul, hs.1, hs.2, h.ops.keepO k (hU _ (by decide)) hr⟩
theorem Opn.say {w w' : World} {lw C : Nat} {d : Ids} {ops : Int} {T base W rw Q V : Nat} {q : Int → List UInt8} {L : List (Int × Value)} {cs : Array Value} (h : Opn w lw d ops T base W rw Q V q L) (hc : SayC lw C 111 w w') (hC : w.heap[C]? = some (.cells cs 37 (0, 0))) (hL : NoOL L q) : Opn w' lw d ops T base W rw Q V q L := by
  obtain ⟨U, k, hU, hlo, hm⟩ := hc.parts hC
  obtain ⟨hS, hr⟩ := h
  have hSto : Sto w lw (dT d T W rw Q V) (begS (s00 lw) T) (g00 lw ops) := hS.env
  have hSto2 := hSto.keepO ⟨(fun b x hx => by cases hx), (fun j _ x hx => by cases hx), rfl⟩ k (hU _ (by decide)) (hm _ _ hSto.mx.ver.m) (hm _ _ hSto.mx.book.2) (hm _ _ hSto.mx.map)
  exact ⟨hS.keepO k (hU _ (by decide)) (hm _ _ hS.buf.2) hSto2 hL, hr⟩
theorem Stg.say {x : Pl25} {o av ov' : Value} {ol' : List UInt8} {q : Bool} {fr ev : Int} {k na : Nat} {w w' : World} (h : Stg x o av q fr ev k na w) (hc : SayC x.lw x.C 111 w w') (hs : Sh w' x.C x.K x.lw ov' ol') (hr : NoO x.r) (hC : x.lu ≤ x.C) : Stg { x with ov := ov', ol := ol' } o av q fr ev k na w' := by
  obtain ⟨cs, xs, ⟨T, base, W, rw, Q, V, Bb, bv, al, qf, L, h1, h2, h3, ⟨h4, h4b⟩, h5⟩, hB, ho⟩ := h
  obtain ⟨U, kk, hU, hlo, hm⟩ := hc.parts h5.wd
  refine ⟨cs, xs, ⟨T, base, W, rw, Q, V, Bb, bv, al, qf, L, h1, ⟨own_k h2.1 kk (hU [126] (by decide)) (by simp) (by decide), kk.heap h2.2.1 ((hU [131] (by decide)).ne h2.2.1 (by simp) (by decide)), h2.2.2⟩, h3.say hc h5.wd h4b, ⟨h4, h4b⟩, h5.say hc hs hr hC⟩, kk.heap hB ((hU [64] (by decide)).ne hB (by simp) (by decide)), own_k ho kk (hU [208] (by decide)) (by simp) (by decide)⟩
theorem Stg.keep0 {x : Pl25} {o av : Value} {q : Bool} {fr ev : Int} {k na : Nat} {w w' : World} (h : Stg x o av q fr ev k na w) (hc : Chg [] w w') : Stg x o av q fr ev k na w' := by
  obtain ⟨cs, xs, h1, h2, h3⟩ := h
  exact ⟨cs, xs, (PO.cl x _ _ _ _ _ _ _).keep w w' [] h1 hc (fun y hy => by cases hy) (fun y hy => by cases hy), hc.heap h2 (by simp), own_keep h3 hc.below0⟩
theorem StgW.keep0 {x : Pl25} {o av : Value} {q : Bool} {fr ev : Int} {na : Nat} {w w' : World} (h : StgW x o av q fr ev na w) (hc : Chg [] w w') : StgW x o av q fr ev na w' := by
  obtain ⟨cs, xs, h1, h2, h3⟩ := h
  exact ⟨cs, xs, (PW.cl x _ _ _ _ _ _).keep w w' [] h1 hc (fun y hy => by cases hy) (fun y hy => by cases hy), hc.heap h2 (by simp), own_keep h3 hc.below0⟩
theorem Stg.bas {x : Pl25} {o av : Value} {q : Bool} {fr ev : Int} {k na : Nat} {w : World} (h : Stg x o av q fr ev k na w) : Bas x.w0 x.lu x.lw x.C x.K x.ov x.ol x.g x.E x.D x.cE x.cD x.r w := by
  obtain ⟨cs, xs, ⟨T, base, W, rw, Q, V, Bb, bv, al, qf, L, -, -, -, -, hb⟩, -⟩ := h
  exact hb
theorem StgW.bas {x : Pl25} {o av : Value} {q : Bool} {fr ev : Int} {na : Nat} {w : World} (h : StgW x o av q fr ev na w) : Bas x.w0 x.lu x.lw x.C x.K x.ov x.ol x.g x.E x.D x.cE x.cD x.r w := by
  obtain ⟨cs, xs, ⟨T, W, rw, Q, V, Bb, bv, al, qf, L, gq, cq, -, -, -, -, -, -, hb⟩, -⟩ := h
  exact hb
theorem StA.three {w0 w : World} {lu lw S K : Nat} {d : Ids} {ops : Int} {ov : Value} {ol : List UInt8} (h : StA w0 lu lw S K d ops ov ol [oA1, oA2, oA3] w) : ∃ g E D cE cD c, 3 ≤ c ∧
    SchB w K (sch d.N d.P (.slice (some ⟨g, 0, none⟩) 3 c) (.slice none 0 0) (.slice none 0 0) false (.slice none 0 0) 0) ∧ Bas w0 lu lw S K ov ol g E D cE cD rA w := by
  obtain ⟨v, xs, hB, hown, hops⟩ := h.row
  obtain ⟨g, c, rfl⟩ := own_some hown (by decide)
  obtain ⟨u1, y1, rfl, ⟨p1, rfl, h1⟩, u2, y2, rfl, ⟨p2, rfl, h2⟩, u3, y3, rfl, ⟨p3, rfl, h3⟩, rfl⟩ := hops
  obtain ⟨-, rfl⟩ : oA1.p = none ∧ p1 = .slice none 0 0 := by
    rcases h1 with h | ⟨b, dl, h, -⟩
    · exact h
    · cases h
  obtain ⟨-, rfl⟩ : oA3.p = none ∧ p3 = .slice none 0 0 := by
    rcases h3 with h | ⟨b, dl, h, -⟩
    · exact h
    · cases h
  obtain ⟨E, cE, D', cD, ce, rfl, hlE, hlD, hE, hce0, hce1, hbs, hl, hbt⟩ : PutOf w lw p2 5 rA := by
    rcases h2 with ⟨h, -⟩ | ⟨b, dl, h, hp⟩
    · cases h
    · cases h
      exact hp
  rcases hown.2 with ⟨e, h0⟩ | ⟨g', cap, cur, e, hA, hg, hc1, hc2, hc3, ht⟩
  · cases e
  cases e
  have hcell : ∀ i v, i < 15 → ([.int .i64 1, .int .i64 0, .int .i64 0, .int .i64 0, .slice none 0 0] ++ ([.int .i64 3, .int .i64 0, .int .i64 0, .int .i64 0, .slice (some ⟨E, 0, none⟩) 1 cE] ++ ([.int .i64 4, .int .i64 0, .int .i64 0, .int .i64 0, .slice none 0 0] ++ [])) : List Value)[i]? = some v → cur[i]? = some v := fun i v hi hv => by
    have : (cur.toList.take (3 * 5))[i]? = some v := by
      have ht' : cur.toList.take (3 * 5) = _ := ht
      rw [ht']
      exact hv
    rwa [List.getElem?_take_of_lt (by omega), Array.getElem?_toList] at this
  refine ⟨g, E, D', cE, cD, c, by simpa using hc1, hB, h.lul, h.up, h.sh.1, h.sh.2, ⟨⟨cur, hg, hcell 0 _ (by decide) rfl, hcell 1 _ (by decide) rfl, hcell 2 _ (by decide) rfl, hcell 3 _ (by decide) rfl, hcell 4 _ (by decide) rfl, hcell 5 _ (by decide) rfl, hcell 6 _ (by decide) rfl, hcell 7 _ (by decide) rfl, hcell 8 _ (by decide) rfl, hcell 9 _ (by decide) rfl, hcell 10 _ (by decide) rfl, hcell 11 _ (by decide) rfl, hcell 12 _ (by decide) rfl, hcell 13 _ (by decide) rfl, hcell 14 _ (by decide) rfl⟩, ⟨ce, hE, hce0, hce1⟩, hbs, hl, hbt⟩⟩
end Go.Proofs.YtgagcbgbjkjghaaGreatDoor
namespace Go.Proofs.YtgagcbgbjkjghaaGreatDoor
open Go.RowKit Go.Lib

def ol3 : List UInt8 := okT ++ okT ++ okT
def ol4 : List UInt8 := ol3 ++ (bT ++ [10])
def ol5 : List UInt8 := ol4 ++ (wT ++ [10])
section
variable {w0 w : World} {lw K : Nat} {d : Ids} {ops : Int}
/-- the places of the first script. -/
def mk25 (w0 : World) (lw K : Nat) (d : Ids) (ops : Int) (ov : Value) (ol : List UInt8) (g E D cE cD : Nat) : Pl25 := ⟨w0, w0.heap.size, lw, w0.heap.size, K, ov, ol, g, E, D, cE, cD, rA, d, ops⟩
/-- the stages of the first script's run. -/
def RunP (w0 : World) (lw K : Nat) (d : Ids) (ops : Int) : Nat → World → Prop
  | 0, w => ∃ ov, StA w0 w0.heap.size lw w0.heap.size K d ops ov ol3 [oA1, oA2, oA3] w
  | 1, w => ∃ ov g E D cE cD av c, 3 ≤ c ∧ Stg (mk25 w0 lw K d ops ov ol4 g E D cE cD) (.slice (some ⟨g, 5, none⟩) 2 (c - 1)) av false 1 1 0 1 w
  | 2, w => ∃ ov g E D cE cD av c, 2 ≤ c ∧ Stg (mk25 w0 lw K d ops ov ol5 g E D cE cD) (.slice (some ⟨g, 10, none⟩) 1 (c - 1)) av false 1 2 1 2 w
  | _, _ => False
theorem Stg.size {x : Pl25} {o av : Value} {q : Bool} {fr ev : Int} {k na : Nat} (h : Stg x o av q fr ev k na w) (hK : x.lw ≤ x.K) : x.lw ≤ w.heap.size := by
  obtain ⟨cs, xs, -, hB, -⟩ := h
  have := heap_lt hB
  omega
theorem StgW.size {x : Pl25} {o av : Value} {q : Bool} {fr ev : Int} {na : Nat} (h : StgW x o av q fr ev na w) (hK : x.lw ≤ x.K) : x.lw ≤ w.heap.size := by
  obtain ⟨cs, xs, -, hB, -⟩ := h
  have := heap_lt hB
  omega
theorem run0 (hG : Scr.Gl w0) (h : RunP w0 lw K d ops 0 w) : Calls Tryz.prog 73 #[.pointer (some ⟨w0.heap.size, 0, none⟩), .int .i64 1] w fun e w' => e = .returned (.bool true) ∧ RunP w0 lw K d ops 1 w' := by
  obtain ⟨ov, hA⟩ := h
  obtain ⟨g, E, D, cE, cD, c, hc, hB, hb⟩ := hA.three
  have hKl := hA.lwK
  obtain ⟨r0, hr0⟩ : ∃ r0, ol3 ++ bT = 111 :: r0 := ⟨_, rfl⟩
  refine (shstep_told w (S := w0.heap.size) (K := K) (lo := lw) (ov := ov) (ol := ol3) (k := 1) (z := 0) (h := 0) (t := 0) (c := 111) (r0 := r0) (P := fun x => ∃ av, Stg (mk25 w0 lw K d ops ov ol3 g E D cE cD) (.slice (some ⟨g, 5, none⟩) 2 (c - 1)) av false 1 1 0 1 x)
    (cell_is hA.sh.1 0 rfl) ?_ ?_ ?_ (by decide) (by decide) (by decide) (by decide) (by decide) (by decide) (by decide) (by rw [ansB]; decide) (by rw [ansB]; exact hr0) (fun h => by cases h)).mono ?_
  · refine (st1 (mk25 w0 lw K d ops ov ol3 g E D cE cD) w (c := c) hA.sto hB hb hKl hA.lws hc).mono ?_
    rintro e w' ⟨av, rfl, h1⟩
    exact ⟨rfl, av, h1⟩
  · rintro x y ⟨av, h1⟩ k
    exact ⟨av, h1.keep0 k⟩
  · rintro x ⟨av, h1⟩
    exact ⟨⟨h1.bas.wd, h1.bas.out⟩, h1.bas.up.gl hG, h1.size hKl⟩
  · rintro e w' ⟨rfl, w2, ov', ⟨av, h1⟩, hs, hsh⟩
    rw [ansB] at hsh
    have h2 := h1.say (ov' := ov') (ol' := ol4) hs hsh noA (Nat.le_refl _)
    exact ⟨rfl, ov', g, E, D, cE, cD, av, c, hc, h2⟩
theorem run1 (hG : Scr.Gl w0) (hKl : lw ≤ K) (h : RunP w0 lw K d ops 1 w) : Calls Tryz.prog 73 #[.pointer (some ⟨w0.heap.size, 0, none⟩), .int .i64 1] w fun e w' => e = .returned (.bool true) ∧ RunP w0 lw K d ops 2 w' := by
  obtain ⟨ov, g, E, D, cE, cD, av, c, hc, h1⟩ := h
  obtain ⟨r0, hr0⟩ : ∃ r0, ol4 ++ wT = 111 :: r0 := ⟨_, rfl⟩
  refine (shstep_told w (S := w0.heap.size) (K := K) (lo := lw) (ov := ov) (ol := ol4) (k := 3) (z := 0) (h := 0) (t := 0) (c := 111) (r0 := r0) (P := fun x => ∃ av, Stg (mk25 w0 lw K d ops ov ol4 g E D cE cD) (.slice (some ⟨g, 10, none⟩) 1 (c - 1 - 1)) av false 1 2 1 2 x)
    (cell_is h1.bas.wd 0 rfl) ?_ ?_ ?_ (by decide) (by decide) (by decide) (by decide) (by decide) (by decide) (by decide) (by rw [ansW]; decide) (by rw [ansW]; exact hr0) (fun h => by cases h)).mono ?_
  · refine (st2 (mk25 w0 lw K d ops ov ol4 g E D cE cD) w h1 hKl (h1.size hKl) (by omega) (by decide) noA).mono ?_
    rintro e w' ⟨av, rfl, h2⟩
    exact ⟨rfl, av, h2⟩
  · rintro x y ⟨av, h1⟩ k
    exact ⟨av, h1.keep0 k⟩
  · rintro x ⟨av, h1⟩
    exact ⟨⟨h1.bas.wd, h1.bas.out⟩, h1.bas.up.gl hG, h1.size hKl⟩
  · rintro e w' ⟨rfl, w2, ov', ⟨av, h1⟩, hs, hsh⟩
    rw [ansW] at hsh
    have h2 := h1.say (ov' := ov') (ol' := ol5) hs hsh noA (Nat.le_refl _)
    exact ⟨rfl, ov', g, E, D, cE, cD, av, c - 1, by omega, h2⟩
/-- the end of the first script. -/
def EndA (w0 : World) (lw K : Nat) (w : World) : Prop := ∃ ov, Sh w w0.heap.size K lw ov finA ∧ Chg [] w0 w
theorem Up.chg (h : Up w0.heap.size w0 w) : Chg [] w0 w := by
  obtain ⟨U, h1, h2⟩ := h
  exact Chg.mono (T := []) h1 (fun x hx hl => by have := h2 x hx hl; omega)
theorem run2 (hG : Scr.Gl w0) (hKl : lw ≤ K) (h : RunP w0 lw K d ops 2 w) : Calls Tryz.prog 73 #[.pointer (some ⟨w0.heap.size, 0, none⟩), .int .i64 1] w fun e w' => e = .returned (.bool false) ∧ EndA w0 lw K w' := by
  obtain ⟨ov, g, E, D, cE, cD, av, c, hc, h1⟩ := h
  obtain ⟨r0, hr0⟩ : ∃ r0, ol5 ++ [119, 97, 105, 116] = 111 :: r0 := ⟨_, rfl⟩
  refine (shstep_wait w (S := w0.heap.size) (K := K) (lo := lw) (ov := ov) (ol := ol5) (c := 111) (r0 := r0) (P := fun x => StgW (mk25 w0 lw K d ops ov ol5 g E D cE cD) (.slice (some ⟨g, 10, none⟩) 1 (c - 1)) av true 1 3 2 x)
    (cell_is h1.bas.wd 0 rfl) ?_ ?_ ?_ (by decide) hr0 (fun h => by cases h)).mono ?_
  · exact st3 (mk25 w0 lw K d ops ov ol5 g E D cE cD) w h1 hKl (h1.size hKl) (by omega)
  · intro x y h1 k
    exact h1.keep0 k
  · intro x h1
    exact ⟨⟨h1.bas.wd, h1.bas.out⟩, h1.bas.up.gl hG, h1.size hKl⟩
  · rintro e w' ⟨rfl, w2, ov', h1, hs, hsh⟩
    have h2 := h1.bas
    have h3 : Up w0.heap.size w0 w' := Up.say h2.up hs (Nat.le_refl _) h2.lul
    exact ⟨rfl, ov', hsh, h3.chg⟩
end
end Go.Proofs.YtgagcbgbjkjghaaGreatDoor
