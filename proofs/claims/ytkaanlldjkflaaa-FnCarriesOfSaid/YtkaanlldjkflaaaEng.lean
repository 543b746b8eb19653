/- What is proved here: slices of strings (columns of engines): how they are read, and the laws' helpers on them: their size, a copy, the comparison of two that are equal. -/
import Derived.Test.YtkaanlldjkflaaaSlc
import Derived.Deep.RegionHeld3
set_option linter.unusedVariables false
set_option linter.unusedSimpArgs false
namespace Go.Proofs.Ytkaanlldjkflaaa
open Go.RowKit

/-- A string of a row, and how long it is. -/
def tC (cs : List ByteArray) (i : Nat) : ByteArray := cs.getD i ⟨#[]⟩
/-- The value v reads in w as a row of strings. -/
def IsT (w : World) (B : Nat) (v : Value) (cs : List ByteArray) : Prop :=
  ∃ a cap, v = .slice a cs.length cap ∧ (cs.length ≤ cap ∧ cap ≤ maxLen ∧ Hid (a = none → cap = 0)) ∧
   ∀ i, i < cs.length → ∃ b off, a = some ⟨b, off, none⟩ ∧ b < B ∧ w.cell? ⟨b, off + i, none⟩ = some (.string (tC cs i)) ∧ (tC cs i).size ≤ maxLen
theorem IsT.below {w w' : World} {B B' : Nat} {v : Value} {cs : List ByteArray} (h : IsT w B v cs) (hb : Below B' w w') (hB : B ≤ B') : IsT w' B v cs := by
  obtain ⟨a, cap, rfl, hm, hc⟩ := h
  refine ⟨a, cap, rfl, hm, fun i hi => ?_⟩
  obtain ⟨b, off, rfl, hbB, h1, h2⟩ := hc i hi
  exact ⟨b, off, rfl, hbB, (hb.cell (p := ⟨b, off + i, none⟩) (show b < B' by omega)).trans h1, h2⟩
theorem IsT.up {w : World} {B B' : Nat} {v : Value} {cs : List ByteArray} (h : IsT w B v cs) (hB : B ≤ B') : IsT w B' v cs := by
  obtain ⟨a, cap, rfl, hm, hc⟩ := h
  exact ⟨a, cap, rfl, hm, fun i hi => by obtain ⟨b, off, rfl, hbB, h1, h2⟩ := hc i hi; exact ⟨b, off, rfl, by omega, h1, h2⟩⟩
theorem IsT.drewN {w : World} {B : Nat} {v : Value} {cs : List ByteArray} (h : IsT w B v cs) (n : Nat) : IsT (w.drewN n) B v cs := h
theorem IsT.alloc {w : World} {B : Nat} {v : Value} {cs : List ByteArray} (h : IsT w B v cs) (o : Obj) (hB : B ≤ w.heap.size) : IsT (w.alloc o) B v cs :=
  h.below ((Below.refl w.heap.size w).alloc (Nat.le_refl _) o) hB
/-- The total of the first strings' lengths. -/
def tT (cs : List ByteArray) : Nat → Nat
  | 0 => 0
  | k + 1 => tT cs k + (tC cs k).size
theorem tT_mono {cs : List ByteArray} : ∀ k j, j ≤ k → tT cs j ≤ tT cs k := by
  intro k
  induction k with
  | zero => intro j h; rw [show j = 0 by omega]; exact Nat.le_refl _
  | succ k ih =>
    intro j h
    by_cases e : j = k + 1
    · subst e; exact Nat.le_refl _
    · have := ih j (by omega); rw [tT]; omega
def tZ (cs : List ByteArray) : Nat := cs.length + tT cs cs.length
def szT (cs : List ByteArray) (m : Int) : Int := if m < (tZ cs : Nat) then -1 else m - (tZ cs : Nat)
theorem szStr (v : Value) (cs : List ByteArray) (m : Int) (h0 : 0 ≤ m) (h1 : m ≤ 1048576) (w : World) (hv : IsT w w.heap.size v cs) :
    Calls Try.prog 31 #[v, .int .i64 m] w fun e w' => e = .returned (.int .i64 (szT cs m)) ∧ w' = w := by
  obtain ⟨a, cap, rfl, hm, hc⟩ := hv
  unfold maxLen at hm
  have HNO := hid (show m < (tZ cs : Nat) → szT cs m = -1 from fun h => if_pos h)
  have HY := hid (show ¬ m < (tZ cs : Nat) → szT cs m = m - (tZ cs : Nat) from fun h => if_neg h)
  have HZ := hid (show tZ cs = cs.length + tT cs cs.length from rfl)
  by_cases hlt : m < (cs.length : Int)
  · have HR := hid (HNO.out (by have := HZ.out; omega))
    rw [HR.out]
    clear hc
    go_enter Try.func31, Try.ntmps31
    go_wp2
    go_ret
    exact ⟨rfl, rfl⟩
  · have hq : ¬ m - (cs.length : Int) < 0 := by omega
    go_enter Try.func31, Try.ntmps31
    go_wp2
    go_loopw [1, 5] (fun l i wr => ∃ (j : Nat) (y : Int), j ≤ cs.length ∧ i = .int .i64 j ∧ l = .int .i64 y ∧ Hid (y = m - cs.length - (tT cs j : Nat)) ∧ 0 ≤ y ∧ wr = w) (fun _ i _ => cs.length - (intOf i).toNat)
    case atStart => exact ⟨0, m - cs.length, Nat.zero_le _, rfl, rfl, by show _ = _; simp [tT], by omega, rfl⟩
    case round =>
      obtain ⟨j, y, hj, rfl, rfl, HYY, hy0, rfl⟩ := hrel
      have hy1 : y ≤ 1048576 := by have := HYY.out; omega
      by_cases hl2 : j < cs.length
      · obtain ⟨b, off, rfl, hb, g0, hsz⟩ := hc j hl2
        unfold maxLen at hsz
        have q0 : 0 ≤ (j : Int) := by omega
        have q1 : (j : Int) < cs.length := by omega
        have HS := hid (show tT cs (j + 1) = tT cs j + (tC cs j).size from rfl)
        have HM := hid (tT_mono (cs := cs) cs.length (j + 1) (by omega))
        clear hc
        by_cases hl3 : y < ((tC cs j).size : Int)
        · have HR := hid (HNO.out (by have h2 := HM.out; have h3 := HYY.out; have h4 := HS.out; have h5 := HZ.out; omega))
          have hq2 : y - ((tC cs j).size : Int) < 0 := by omega
          go_wp2
          go_ret
          exact ⟨by rw [HR.out]; rfl, rfl⟩
        · have hq2 : ¬ y - ((tC cs j).size : Int) < 0 := by omega
          go_wp2
          go_roundw
          case rel => exact ⟨j + 1, y - (tC cs j).size, by omega, by go_num, rfl, by show _ = _; have h3 := HYY.out; have h4 := HS.out; omega, by omega, trivial⟩
          case measure => simp [intOf]; omega
      · obtain rfl : j = cs.length := by omega
        have HR := hid (HY.out (by have h3 := HYY.out; have h5 := HZ.out; omega))
        have HE := hid (show y = m - (tZ cs : Nat) by have h3 := HYY.out; have h5 := HZ.out; omega)
        clear hc
        go_wp2
        go_ret
        exact ⟨by rw [HR.out, ← HE.out]; rfl, rfl⟩
theorem mk_strs (n : Nat) (hn : n ≤ 1099511627776) (W : World) :
    (Instr.makeSlice 22 (.int .i64 n) (.int .i64 n)).run Try.prog W = .ok (.slice (some ⟨W.heap.size, 0, none⟩) n n) (W.alloc (.cells (madeCells #[.string ⟨#[]⟩] n) 9)) := by
  obtain ⟨i0, hi, hz0, hz1, hz2⟩ := info_parts (show (Try.prog.info? 9).map (fun i => (i.zero, i.size, i.bytes)) = some (some (.string ⟨#[]⟩), 1, 16) by kernel_rfl)
  have h := run_make (P := Try.prog) W 22 9 i0 _ Try.underlying22 hi hz0 .i64 .i64 n n (by omega) (by omega) (by rw [hz2]; omega) (by omega)
  simpa [hz1, Value.cells] using h
/-- A row of strings that a call has made: cells of a block of its own. -/
def RwT (w : World) (lo hi : Nat) (v : Value) (cs : List ByteArray) : Prop :=
  ∃ g cap cur, v = .slice (some ⟨g, 0, none⟩) cs.length cap ∧ (lo ≤ g ∧ g < hi) ∧ w.heap[g]? = some (.cells cur 9 (0, 0)) ∧ (cs.length ≤ cap ∧ cap ≤ maxLen) ∧ cur.size = cap ∧ ∀ i, i < cs.length → cur[i]? = some (.string (tC cs i)) ∧ (tC cs i).size ≤ maxLen
theorem RwT.isT {w : World} {lo hi : Nat} {v : Value} {cs : List ByteArray} (h : RwT w lo hi v cs) : IsT w hi v cs := by
  obtain ⟨g, cap, cur, rfl, hg, hgg, hm, hs, hc⟩ := h
  exact ⟨_, cap, rfl, ⟨hm.1, hm.2, fun h => by cases h⟩, fun i hi => ⟨g, 0, rfl, hg.2, by rw [row_cell hgg, Nat.zero_add]; exact (hc i hi).1, (hc i hi).2⟩⟩
theorem RwT.below {w w' : World} {lo hi B : Nat} {v : Value} {cs : List ByteArray} (h : RwT w lo hi v cs) (hb : Below B w w') (hB : hi ≤ B) : RwT w' lo hi v cs := by
  obtain ⟨g, cap, cur, rfl, hg, hgg, hm, hs, hc⟩ := h
  exact ⟨g, cap, cur, rfl, hg, (hb.block g (by omega)).trans hgg, hm, hs, hc⟩
theorem RwT.up {w : World} {lo hi hi' : Nat} {v : Value} {cs : List ByteArray} (h : RwT w lo hi v cs) (hh : hi ≤ hi') : RwT w lo hi' v cs := by
  obtain ⟨g, cap, cur, rfl, hg, rest⟩ := h
  exact ⟨g, cap, cur, rfl, by omega, rest⟩
/-- What is left by a call that hands back new strings. -/
def RetT (w : World) (cs : List ByteArray) (e : Ending) (w' : World) : Prop := ∃ v, e = .returned v ∧ RwT w' w.heap.size w'.heap.size v cs ∧ Below w.heap.size w w'
theorem toStr (v : Value) (cs : List ByteArray) (w : World) (hl : cs.length ≤ 1048576) (hv : IsT w w.heap.size v cs) :
    Calls Try.prog 33 #[v] w (RetT w cs) := by
  obtain ⟨a, cap, rfl, hm, hc⟩ := hv
  unfold maxLen at hm
  obtain ⟨n, hn⟩ : ∃ n, cs.length = n := ⟨_, rfl⟩
  have HN := hid hn
  rw [hn] at hc hm hl ⊢
  have hmk := mk_strs n (by omega)
  have HMS := hid (show (madeCells #[Value.string ⟨#[]⟩] n).size = n by rw [size_madeCells] <;> rfl)
  generalize madeCells #[Value.string ⟨#[]⟩] n = mc at *
  clear hn
  go_enter Try.func33, Try.ntmps33
  go_wp2
  go_loopw [4] (fun i wr => ∃ (j : Nat) (cur : Array Value), j ≤ n ∧ i = .int .i64 j ∧ Hid (wr.heap[w.heap.size]? = some (.cells cur 9 (0, 0))) ∧ Hid (cur.size = n) ∧ Hid (∀ k, k < j → cur[k]? = some (.string (tC cs k))) ∧ Below w.heap.size w wr) (fun i _ => n - (intOf i).toNat)
  case atStart => exact ⟨0, mc, Nat.zero_le _, rfl, heap_alloc_new w _, HMS, fun k hk => by omega, RetRow.e1 _ _⟩
  case round =>
    obtain ⟨j, cur, hj, rfl, HG, HS, HR, hbel⟩ := hrel
    clear hmk
    by_cases hlt : j < n
    · obtain ⟨b, off, rfl, hb, g0, hsz⟩ := hc j hlt
      replace g0 := (hbel.cell (p := ⟨b, off + j, none⟩) hb).trans g0
      have hgl := (Array.getElem?_eq_some_iff.1 HG.out).1
      have hs3 : j < cur.size := by rw [HS.out]; omega
      have c0 : wr.cell? ⟨w.heap.size, j, none⟩ = some (cur[j]'hs3) := by rw [row_cell HG.out, Array.getElem?_eq_getElem hs3]
      have f0 := row_free HG.out j
      clear hc
      go_wp2
      go_roundw
      case rel =>
        refine ⟨j + 1, _, by omega, by go_num, row_set HG.out _ _, by show _ = _; simpa using HS.out, fun k hk => ?_, hbel.setCell (p := ⟨w.heap.size, j, none⟩) (Nat.le_refl _) _⟩
        by_cases e : k = j
        · subst e; rw [Array.getElem?_setIfInBounds, if_pos rfl, if_pos hs3]
        · rw [Array.getElem?_setIfInBounds, if_neg (by omega)]; exact HR.out k (by omega)
      case measure => simp [intOf]; omega
    · obtain rfl : j = n := by omega
      have HC := hid hc
      clear hc
      go_wp2
      go_ret
      refine ⟨_, rfl, ?_, hbel⟩
      exact ⟨w.heap.size, j, cur, congrArg (fun q => Value.slice (some ⟨w.heap.size, 0, none⟩) q j) HN.out.symm, ⟨Nat.le_refl _, (Array.getElem?_eq_some_iff.1 HG.out).1⟩, HG.out, ⟨by rw [HN.out]; exact Nat.le_refl _, by unfold maxLen; omega⟩, HS.out, fun i hi => ⟨HR.out i (by rw [← HN.out]; exact hi), by obtain ⟨_, _, _, _, _, h⟩ := HC.out i (by rw [← HN.out]; exact hi); exact h⟩⟩
theorem eqStr (v u : Value) (cs : List ByteArray) (B B' : Nat) (w : World) (hv : IsT w B v cs) (hu : IsT w B' u cs) :
    Calls Try.prog 34 #[v, u] w fun e w' => e = .returned (.bool true) ∧ Chg 0 0 w w' := by
  obtain ⟨a, cap, rfl, hm, hc⟩ := hv
  obtain ⟨a', cap', rfl, hm', hc'⟩ := hu
  unfold maxLen at hm hm'
  obtain ⟨n, hn⟩ : ∃ n, cs.length = n := ⟨_, rfl⟩
  rw [hn] at hm hc hm' hc' ⊢
  have hl1 : ((n : Int) != (n : Int)) = false := by simp
  clear hn
  go_enter Try.func34, Try.ntmps34
  go_wp2
  go_loopw [5] (fun i wr => ∃ j : Nat, j ≤ n ∧ i = .int .i64 j ∧ Chg 0 0 w wr) (fun i wr => n - (intOf i).toNat)
  case atStart => exact ⟨0, Nat.zero_le _, rfl, Chg.refl _ _ _⟩
  case round =>
    obtain ⟨j, hj, rfl, cr⟩ := hrel
    by_cases hlt : j < n
    · obtain ⟨b, off, rfl, hb, g0, -⟩ := hc j hlt
      obtain ⟨b', off', rfl, hb', d0, -⟩ := hc' j hlt
      have cb := cr.below (B := w.heap.size) (by omega) (Nat.le_refl _)
      have z0 := World.block_lt_of_cell? _ _ g0
      have z1 := World.block_lt_of_cell? _ _ d0
      replace g0 := (cb.cell (p := ⟨b, off + j, none⟩) z0).trans g0
      replace d0 := (cb.cell (p := ⟨b', off' + j, none⟩) z1).trans d0
      have q0 : 0 ≤ (j : Int) := by omega
      have q1 : (j : Int) < n := by omega
      clear hc hc' cb
      go_wp2_with fail
      go_quiet (fail)
      go_wp2
      go_roundw
      case rel => exact ⟨j + 1, by omega, by go_num, cr.drewN _⟩
      case measure => simp [intOf]; omega
    · obtain rfl : j = n := by omega
      clear hc hc'
      go_wp2
      go_ret
      exact ⟨rfl, cr⟩
theorem eng_alloc (w : World) (v : Value) (t : TypeId) : (w.alloc (.cells #[v] t)).heap[w.heap.size]? = some (.cells #[v] t (0, 0)) := heap_alloc_new _ _
theorem eng_cell (w : World) (v : Value) (t : TypeId) : (w.alloc (.cells #[v] t)).cell? ⟨w.heap.size, 0, none⟩ = some v := by rw [row_cell (eng_alloc w v t)]; rfl
theorem szEng (v : Value) (cs : List ByteArray) (m : Int) (h0 : 0 ≤ m) (h1 : m ≤ 1048576) (w : World) (hv : IsT w w.heap.size v cs) :
    Calls Try.prog 8 #[.agg #[v], .int .i64 m] w fun e w' => e = .returned (.int .i64 (szT cs m)) ∧ Below w.heap.size w w' := by
  obtain ⟨av, cv, hav⟩ : ∃ a cap, v = .slice a cs.length cap := ⟨_, _, hv.choose_spec.choose_spec.1⟩
  subst hav
  have e0 := eng_cell w (.slice av cs.length cv) 24
  have hv1 := (hv.alloc (.cells #[.slice av cs.length cv] 24) (Nat.le_refl _)).up (show w.heap.size ≤ (w.alloc (.cells #[.slice av cs.length cv] 24)).heap.size by simp)
  have c1 := RetRow.e1 w (.cells #[.slice av cs.length cv] 24)
  clear hv
  have hlo : szT cs m = -1 ∨ (0 ≤ szT cs m) := by unfold szT; split <;> omega
  obtain ⟨y, hy⟩ : ∃ y, szT cs m = y := ⟨_, rfl⟩
  have HY := hid hy
  rw [hy] at hlo ⊢
  clear hy
  go_enter Try.func8, Try.ntmps8
  go_wp2_with fail
  refine (szStr _ cs m h0 h1 _ hv1).mono ?_
  rw [HY.out]
  rintro e wx ⟨rfl, rfl⟩
  rcases hlo with rfl | h
  · go_wp2
    go_ret
    exact ⟨rfl, c1⟩
  · have q : ¬ y < 0 := by omega
    go_wp2
    go_ret
    exact ⟨rfl, c1⟩
theorem eqEng (v u : Value) (cs : List ByteArray) (B B' : Nat) (w : World) (hv : IsT w B v cs) (hu : IsT w B' u cs) (hB : B ≤ w.heap.size) (hB' : B' ≤ w.heap.size) :
    Calls Try.prog 12 #[.agg #[v], .agg #[u]] w fun e w' => e = .returned (.bool true) ∧ Below w.heap.size w w' := by
  obtain ⟨av, cv, hav⟩ : ∃ a cap, v = .slice a cs.length cap := ⟨_, _, hv.choose_spec.choose_spec.1⟩
  obtain ⟨au, cu, hau⟩ : ∃ a cap, u = .slice a cs.length cap := ⟨_, _, hu.choose_spec.choose_spec.1⟩
  subst hav hau
  have c1 := RetRow.e1 w (.cells #[.slice av cs.length cv] 27)
  have c2 := RetRow.e1 (w.alloc (.cells #[.slice av cs.length cv] 27)) (.cells #[.slice au cs.length cu] 27)
  have hs1 : (w.alloc (.cells #[.slice av cs.length cv] 27)).heap.size = w.heap.size + 1 := by simp
  have e0 := (c2.cell (p := ⟨w.heap.size, 0, none⟩) (show w.heap.size < _ by omega)).trans (eng_cell w (.slice av cs.length cv) 27)
  have e1 := eng_cell (w.alloc (.cells #[.slice av cs.length cv] 27)) (.slice au cs.length cu) 27
  rw [hs1] at e1
  have c3 := c1.trans (c2.mono (by omega))
  have hv1 := hv.below c3 hB
  have hu1 := hu.below c3 hB'
  clear c1 c2 hv hu
  go_enter Try.func12, Try.ntmps12
  go_wp2_with fail
  refine (eqStr _ _ cs _ _ _ hv1 hu1).mono ?_
  rintro e wx ⟨rfl, cx⟩
  go_wp2
  go_ret
  exact ⟨rfl, c3.trans (cx.below (by omega) (by simp; omega))⟩
theorem Try.infoEng : (Try.prog.info? 27).map (·.size) = some 1 := by kernel_rfl
theorem bodyPost_eng {fn : Func} {p : Tmp} (h : fn.results = #[.cell p 27]) {a : Act} {w' : World} {g : Nat} {v : Value} {Q : Ending → World → Prop}
    (hd : a.defers = []) (hp : a.tmps.getD p undef = .pointer (some ⟨g, 0, none⟩)) (hg : w'.heap[g]? = some (.cells #[v] 27 (0, 0)))
    (hq : Q (.returned (.agg #[v])) w') : bodyPost Try.prog fn Q .ret a w' := by
  refine bodyPost_ret (v := .agg #[v]) ?_ hd hq
  have hp' : a.tmps[p]?.getD undef = .pointer (some ⟨g, 0, none⟩) := by rw [← Array.getD_eq_getD_getElem?]; exact hp
  simp [results, h, hp', asAddr, run_loadVar_row (P := Try.prog) w' g 27 27 #[v] (0, 0) _ hg Try.underlying27 rfl Try.infoEng]
theorem eng_chg (w : World) (g o : Nat) (v : Value) : Chg g (g + 1) w (w.setCell ⟨g, o, none⟩ v) := (Chg.refl _ _ _).setCell (p := ⟨g, o, none⟩) (Nat.le_refl _) (Nat.lt_succ_self _) v
theorem RwT.keep {w w' : World} {lo hi g g' : Nat} {v : Value} {cs : List ByteArray} (h : RwT w lo hi v cs) (hb : Chg g g' w w') (hd : hi ≤ g ∨ g' ≤ lo) : RwT w' lo hi v cs := by
  obtain ⟨b, cap, cur, rfl, hg, hgg, hm, hs, hc⟩ := h
  exact ⟨b, cap, cur, rfl, hg, (hb.block b (Array.getElem?_eq_some_iff.1 hgg).1 (by omega)).trans hgg, hm, hs, hc⟩
theorem RwT.down {w : World} {lo lo' hi : Nat} {v : Value} {cs : List ByteArray} (h : RwT w lo hi v cs) (hh : lo' ≤ lo) : RwT w lo' hi v cs := by
  obtain ⟨g, cap, cur, rfl, hg, rest⟩ := h
  exact ⟨g, cap, cur, rfl, by omega, rest⟩
/-- What is left by a call that hands back an engine. -/
def RetEng (w : World) (cs : List ByteArray) (e : Ending) (w' : World) : Prop := ∃ g cap, e = .returned (.agg #[.slice (some ⟨g, 0, none⟩) cs.length cap]) ∧ RwT w' w.heap.size w'.heap.size (.slice (some ⟨g, 0, none⟩) cs.length cap) cs ∧ Below w.heap.size w w'
theorem toEng (v : Value) (cs : List ByteArray) (hl : cs.length ≤ 1048576) (w : World) (hv : IsT w w.heap.size v cs) :
    Calls Try.prog 10 #[.agg #[v]] w (RetEng w cs) := by
  obtain ⟨av, cv, hav⟩ : ∃ a cap, v = .slice a cs.length cap := ⟨_, _, hv.choose_spec.choose_spec.1⟩
  subst hav
  have e0 := eng_cell w (.slice av cs.length cv) 24
  have b1 := RetRow.e1 w (.cells #[.slice av cs.length cv] 24)
  obtain ⟨wA, hwA⟩ : ∃ x, x = ((w.alloc (.cells #[.slice av cs.length cv] 24)).alloc (.cells #[.slice none 0 0] 27)).alloc (.cells #[.slice none 0 0] 27) := ⟨_, rfl⟩
  have hsA : wA.heap.size = w.heap.size + 1 + 1 + 1 := by rw [hwA]; simp
  have bA : Below w.heap.size w wA := by rw [hwA]; exact (b1.alloc (by simp) _).alloc (by simp; omega) _
  have hvA : IsT wA wA.heap.size (.slice av cs.length cv) cs := (hv.below bA (Nat.le_refl _)).up (by omega)
  have g1 : wA.heap[w.heap.size + 1]? = some (.cells #[.slice none 0 0] 27 (0, 0)) := by
    rw [hwA, Below.heap_alloc _ _ _ (by simp), ← show (w.alloc (.cells #[.slice av cs.length cv] 24)).heap.size = w.heap.size + 1 by simp]
    exact heap_alloc_new _ _
  have g2 : wA.heap[w.heap.size + 1 + 1]? = some (.cells #[.slice none 0 0] 27 (0, 0)) := by
    rw [hwA, ← show ((w.alloc (.cells #[.slice av cs.length cv] 24)).alloc (.cells #[.slice none 0 0] 27)).heap.size = w.heap.size + 1 + 1 by simp]
    exact heap_alloc_new _ _
  clear b1 hv
  go_enter Try.func10, Try.ntmps10
  go_wp2_with fail
  rw [← hwA]
  refine (toStr _ cs _ hl hvA).mono ?_
  rintro e w2 ⟨v2, rfl, r2, b2⟩
  clear hwA hvA
  have hs2 := b2.size
  replace g1 := (b2.block _ (by omega)).trans g1
  replace g2 := (b2.block _ (by omega)).trans g2
  obtain ⟨gg, c2, cur, hv2, -⟩ := id r2
  subst hv2
  have z2 : w2.cell? ⟨w.heap.size + 1 + 1, 0, none⟩ = some (.slice none 0 0) := by rw [row_cell g2]; rfl
  have f2 := row_free g2 0
  have hr := row_set g2 0 (.slice (some ⟨gg, 0, none⟩) cs.length c2)
  have z3 : (w2.setCell ⟨w.heap.size + 1 + 1, 0, none⟩ (.slice (some ⟨gg, 0, none⟩) cs.length c2)).cell? ⟨w.heap.size + 1 + 1, 0, none⟩ = some (.slice (some ⟨gg, 0, none⟩) cs.length c2) := by rw [row_cell hr]; rfl
  have hr1 : (w2.setCell ⟨w.heap.size + 1 + 1, 0, none⟩ (.slice (some ⟨gg, 0, none⟩) cs.length c2)).heap[w.heap.size + 1]? = _ := (Below.heap_setCell _ _ _ _ (by simp)).trans g1
  have z1 : (w2.setCell ⟨w.heap.size + 1 + 1, 0, none⟩ (.slice (some ⟨gg, 0, none⟩) cs.length c2)).cell? ⟨w.heap.size + 1, 0, none⟩ = some (.slice none 0 0) := by rw [row_cell hr1]; rfl
  have f1 := row_free hr1 0
  have HF := hid (row_set hr1 0 (.slice (some ⟨gg, 0, none⟩) cs.length c2))
  have b3 := bA.trans (b2.mono (by omega))
  have r3 := (r2.keep (eng_chg w2 (w.heap.size + 1 + 1) 0 (.slice (some ⟨gg, 0, none⟩) cs.length c2)) (.inr (by omega))).keep (eng_chg _ (w.heap.size + 1) 0 (.slice (some ⟨gg, 0, none⟩) cs.length c2)) (.inr (by omega))
  clear hr hr1 g1 g2 r2 b2 bA
  go_wp2
  (try simp only [Exit.inBlock, Exit.then])
  refine bodyPost_eng rfl rfl (by rfl) HF.out ?_
  exact ⟨gg, c2, rfl, (r3.down (by omega)).up (by simp), (b3.setCell (p := ⟨w.heap.size + 1 + 1, 0, none⟩) (by show w.heap.size ≤ w.heap.size + 1 + 1; omega) _).setCell (p := ⟨w.heap.size + 1, 0, none⟩) (by show w.heap.size ≤ w.heap.size + 1; omega) _⟩
end Go.Proofs.Ytkaanlldjkflaaa
