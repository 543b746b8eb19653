/- What is proved here: contracts of the helpers of the laws package on slices of ints (eqIntS, markIntS, heldIntS, toIntS). -/
import Derived.Test.YtkaanlldjkflaaaNum
set_option linter.unusedVariables false
set_option linter.unusedSimpArgs false
namespace Go.Proofs.Ytkaanlldjkflaaa
open Go.RowKit


/-- eqIntS answers whether the two lists are equal. -/
theorem eqInts (v u : Value) (xs ys : List Int) (B B' : Nat) (w : World) (hv : IsI w B v xs) (hu : IsI w B' u ys) :
    Calls Try.prog 18 #[v, u] w fun e w' => e = .returned (.bool (eqL xs ys)) ∧ ∃ n, w' = w.drewN n := by
  obtain ⟨a, cap, rfl, hm, hr, hc⟩ := hv
  obtain ⟨a', cap', rfl, hm', hr', hc'⟩ := hu
  unfold maxLen at hm hm'
  by_cases hl : xs.length = ys.length
  · have hl1 : ((xs.length : Int) != (ys.length : Int)) = false := by simp [hl]
    have HL : Hid (xs.length = ys.length) := hl
    clear hl hr hr'
    go_enter Try.func18, Try.ntmps18
    go_wp2
    go_loopw [5] (fun i wr => ∃ j : Nat, j ≤ xs.length ∧ i = .int .i64 j ∧ xs.take j = ys.take j ∧ ∃ n, wr = w.drewN n) (fun i wr => xs.length - (intOf i).toNat)
    case atStart => exact ⟨0, Nat.zero_le _, rfl, by simp, 0, rfl⟩
    case round =>
      obtain ⟨j, hj, rfl, HT, n, rfl⟩ := hrel
      have HT' : Hid (xs.take j = ys.take j) := HT
      clear HT
      by_cases hlt : j < xs.length
      · have hlt' : j < ys.length := by have := HL.out; omega
        obtain ⟨b, off, rfl, hb, hcell⟩ := hc j hlt
        obtain ⟨b', off', rfl, hb', hcell'⟩ := hc' j hlt'
        have hce := hcell j hlt
        have hce' := hcell' j hlt'
        clear hc hc' hcell hcell'
        by_cases he : el xs j = el ys j
        · have he1 : (el xs j != el ys j) = false := by simpa using he
          have HE : Hid (el xs j = el ys j) := he
          clear he
          go_wp2
          go_quiet (fail)
          go_wp2
          go_roundw
          case rel => exact ⟨j + 1, by omega, by go_num, take_eq_succ hlt hlt' HT'.out HE.out, n + nq, rfl⟩
          case measure => simp [intOf]; omega
        · have he1 : (el xs j != el ys j) = true := by simpa using he
          have HE : Hid (el xs j ≠ el ys j) := he
          clear he
          go_wp2
          go_quiet (fail)
          go_wp2
          go_ret
          exact ⟨retB (eqL_at HE.out).symm, n + nq, by simp⟩
      · clear hc hc'
        go_wp2
        go_ret
        exact ⟨retB (eqL_all HL.out (by omega) HT'.out).symm, _, rfl⟩
  · have hl1 : ((xs.length : Int) != (ys.length : Int)) = true := by simpa using (by omega : ¬ (xs.length : Int) = ys.length)
    have HL : Hid (xs.length ≠ ys.length) := hl
    clear hl hr hr' hc hc'
    go_enter Try.func18, Try.ntmps18
    go_wp2
    go_ret
    exact ⟨retB (eqL_len HL.out).symm, 0, rfl⟩

/-- Two slices that read as one list: true. -/
theorem eqSame (v u : Value) (xs : List Int) (B B' : Nat) (w : World) (hv : IsI w B v xs) (hu : IsI w B' u xs) :
    Calls Try.prog 18 #[v, u] w fun e w' => e = .returned (.bool true) ∧ ∃ n, w' = w.drewN n :=
  (eqInts v u xs xs B B' w hv hu).mono fun e w' ⟨he, hw⟩ => ⟨by rw [he, eqL_self], hw⟩

theorem drewN_chg (w : World) (n lo hi : Nat) : Chg lo hi w (w.drewN n) := (Chg.refl _ _ _).drewN n
/-- The same, told as a change of nothing. -/
theorem eqSameC (v u : Value) (xs : List Int) (B B' : Nat) (w : World) (hv : IsI w B v xs) (hu : IsI w B' u xs) :
    Calls Try.prog 18 #[v, u] w fun e w' => e = .returned (.bool true) ∧ Chg 0 0 w w' :=
  (eqSame v u xs B B' w hv hu).mono fun e w' ⟨he, n, hn⟩ => ⟨he, hn ▸ drewN_chg _ _ _ _⟩

/-- deInts answers whether the two lists are equal. -/
theorem deIs (v u : Value) (xs ys : List Int) (B B' : Nat) (w : World) (hv : IsI w B v xs) (hu : IsI w B' u ys) :
    Calls Try.prog 23 #[v, u] w fun e w' => e = .returned (.bool (eqL xs ys)) ∧ ∃ n, w' = w.drewN n := by
  obtain ⟨a, cap, rfl, hm, hr, hc⟩ := hv
  obtain ⟨a', cap', rfl, hm', hr', hc'⟩ := hu
  unfold maxLen at hm hm'
  by_cases hl : xs.length = ys.length
  · have hl1 : ((xs.length : Int) != (ys.length : Int)) = false := by simp [hl]
    have HL : Hid (xs.length = ys.length) := hl
    clear hl hr hr'
    go_enter Try.func23, Try.ntmps23
    go_wp2
    go_loopw [5] (fun i wr => ∃ j : Nat, j ≤ xs.length ∧ i = .int .i64 j ∧ xs.take j = ys.take j ∧ ∃ n, wr = w.drewN n) (fun i wr => xs.length - (intOf i).toNat)
    case atStart => exact ⟨0, Nat.zero_le _, rfl, by simp, 0, rfl⟩
    case round =>
      obtain ⟨j, hj, rfl, HT, n, rfl⟩ := hrel
      have HT' : Hid (xs.take j = ys.take j) := HT
      clear HT
      by_cases hlt : j < xs.length
      · have hlt' : j < ys.length := by have := HL.out; omega
        obtain ⟨b, off, rfl, hb, hcell⟩ := hc j hlt
        obtain ⟨b', off', rfl, hb', hcell'⟩ := hc' j hlt'
        have hce := hcell j hlt
        have hce' := hcell' j hlt'
        clear hc hc' hcell hcell'
        by_cases he : el xs j = el ys j
        · have he1 : (el xs j != el ys j) = false := by simpa using he
          have HE : Hid (el xs j = el ys j) := he
          clear he
          go_wp2
          go_quiet (fail)
          go_wp2
          go_roundw
          case rel => exact ⟨j + 1, by omega, by go_num, take_eq_succ hlt hlt' HT'.out HE.out, n + nq, rfl⟩
          case measure => simp [intOf]; omega
        · have he1 : (el xs j != el ys j) = true := by simpa using he
          have HE : Hid (el xs j ≠ el ys j) := he
          clear he
          go_wp2
          go_quiet (fail)
          go_wp2
          go_ret
          exact ⟨retB (eqL_at HE.out).symm, n + nq, by simp⟩
      · clear hc hc'
        go_wp2
        go_ret
        exact ⟨retB (eqL_all HL.out (by omega) HT'.out).symm, _, rfl⟩
  · have hl1 : ((xs.length : Int) != (ys.length : Int)) = true := by simpa using (by omega : ¬ (xs.length : Int) = ys.length)
    have HL : Hid (xs.length ≠ ys.length) := hl
    clear hl hr hr' hc hc'
    go_enter Try.func23, Try.ntmps23
    go_wp2
    go_ret
    exact ⟨retB (eqL_len HL.out).symm, 0, rfl⟩

/-- Two slices that read as one list: true. -/
theorem deSm (v u : Value) (xs : List Int) (B B' : Nat) (w : World) (hv : IsI w B v xs) (hu : IsI w B' u xs) :
    Calls Try.prog 23 #[v, u] w fun e w' => e = .returned (.bool true) ∧ ∃ n, w' = w.drewN n :=
  (deIs v u xs xs B B' w hv hu).mono fun e w' ⟨he, hw⟩ => ⟨by rw [he, eqL_self], hw⟩

/-- The same, told as a change of nothing. -/
theorem deSmC (v u : Value) (xs : List Int) (B B' : Nat) (w : World) (hv : IsI w B v xs) (hu : IsI w B' u xs) :
    Calls Try.prog 23 #[v, u] w fun e w' => e = .returned (.bool true) ∧ Chg 0 0 w w' :=
  (deSm v u xs B B' w hv hu).mono fun e w' ⟨he, n, hn⟩ => ⟨he, hn ▸ drewN_chg _ _ _ _⟩

/-- heldIntS finds the marks that stand there. -/
theorem heldInts (v : Value) (k : Int) (n B : Nat) (w : World) (h0 : 0 ≤ k) (hk : k + n ≤ 4611686018427387904) (hv : IsI w B v (marks k n)) :
    Calls Try.prog 21 #[v, .int .i64 k] w fun e w' => e = .returned (.int .i64 (k + n)) ∧ w = w' := by
  obtain ⟨a, cap, rfl, hm, hr, hc⟩ := hv
  rw [marks_len] at hc hm ⊢
  clear hr hm
  go_enter Try.func21, Try.ntmps21
  go_wp2
  go_loop [1, 5] (fun m i => ∃ j : Nat, j ≤ n ∧ i = .int .i64 j ∧ m = .int .i64 (k + j)) (fun _ i => n - (intOf i).toNat)
  case atStart => exact ⟨0, Nat.zero_le _, rfl, retI' (by omega)⟩
  case round =>
    obtain ⟨j, hj, rfl, rfl⟩ := hrel
    by_cases hlt : j < n
    · obtain ⟨b, off, rfl, hb, hcell⟩ := hc j hlt
      have hce := hcell j hlt
      rw [marks_el _ _ _ hlt] at hce
      clear hc hcell
      have ht : ((k + (j : Int)) != (k + (j : Int))) = false := by simp
      go_wp2
      go_round
      case rel => exact ⟨j + 1, by omega, by go_num, by go_num⟩
      case measure => simp [intOf]; omega
    · clear hc
      obtain rfl : j = n := by omega
      go_wp2
      go_ret
      exact ⟨rfl, rfl⟩

theorem marks_end {w : World} {lo hi g n cap : Nat} {cur : Array Value} {k : Int} (hg : w.heap[g]? = some (.cells cur 3 (0, 0))) (hl : lo ≤ g) (hh : g < hi) (hn : n ≤ cap) (hm : cap ≤ maxLen)
    (hs : cur.size = cap) (h0 : 0 ≤ k) (hk : k + n ≤ 4611686018427387904) (h : ∀ i, i < n → cur[i]? = some (.int .i64 (k + i))) : Rw w lo hi (.slice (some ⟨g, 0, none⟩) n cap) (marks k n) := by
  refine ⟨?_, fun b hb => by simp [Value.ownBlock] at hb; omega, R64.marks (by omega) (by omega)⟩
  rw [marks_len]
  refine own_of_cells hg hl hn hm hs (by simp [marks_len]) fun i hi => ?_
  rw [h i hi, map_int_at _ _ (by rw [marks_len]; exact hi), marks_el _ _ _ hi]
theorem marks_step {j : Nat} {k : Int} {cur : Array Value} (hs : j < cur.size) (h : ∀ i, i < j → cur[i]? = some (.int .i64 (k + i))) :
    ∀ i, i < j + 1 → (cur.setIfInBounds j (.int .i64 (k + j)))[i]? = some (.int .i64 (k + i)) := by
  intro i hi
  rw [Array.getElem?_setIfInBounds]
  by_cases e : j = i
  · subst e; simp [hs]
  · rw [if_neg e]; exact h i (by omega)

/-- markIntS lays marks into a row of the caller's. -/
theorem markInts (v : Value) (xs : List Int) (k : Int) (lo hi : Nat) (w : World) (h0 : 0 ≤ k) (hk : k + xs.length ≤ 4611686018427387904) (hv : Rw w lo hi v xs) :
    Calls Try.prog 20 #[v, .int .i64 k] w fun e w' => e = .returned (.int .i64 (k + xs.length)) ∧ Rw w' lo hi v (marks k xs.length) ∧ Chg lo hi w w' := by
  obtain ⟨ho, hb, hr⟩ := hv
  rcases ho.2 with ⟨rfl, hn⟩ | ⟨g, cap, cur, rfl, hbg, hgg, hnc, hcm, hcs, _⟩
  · have hx : xs = [] := List.eq_nil_of_length_eq_zero hn
    subst hx
    clear ho hb hr hn hk
    go_enter Try.func20, Try.ntmps20
    go_wp2
    refine wp_loop_rounds 1 ?_
    rw [rounds_succ]
    go_wp2
    go_ret
    exact ⟨retI (by simp), Rw.nil _ _ _, Chg.refl _ _ _⟩
  · have hgh : g < hi := hb g rfl
    clear ho hb hr
    generalize xs.length = n at *
    go_enter Try.func20, Try.ntmps20
    go_wp2
    go_loopw [1, 5] (fun m i wr => ∃ (j : Nat) (cur' : Array Value), j ≤ n ∧ i = .int .i64 j ∧ m = .int .i64 (k + j) ∧ wr.heap[g]? = some (.cells cur' 3 (0, 0)) ∧ cur'.size = cap ∧
      (∀ i, i < j → cur'[i]? = some (.int .i64 (k + i))) ∧ Chg lo hi w wr) (fun _ i _ => n - (intOf i).toNat)
    case atStart => exact ⟨0, cur, Nat.zero_le _, rfl, retI' (by omega), hgg, by omega, fun i hi => by omega, Chg.refl _ _ _⟩
    case round =>
      obtain ⟨j, cur', hj, rfl, rfl, HG, hs, HA, hchg⟩ := hrel
      have HG' : Hid (wr.heap[g]? = some (.cells cur' 3 (0, 0))) := HG
      have HA' : Hid (∀ i, i < j → cur'[i]? = some (.int .i64 (k + i))) := HA
      clear HG HA
      by_cases hlt : j < n
      · have hc : wr.cell? ⟨g, j, none⟩ = some (cur'[j]'(by omega)) := by rw [row_cell HG'.out, Array.getElem?_eq_getElem (by omega)]
        have hf := row_free HG'.out j
        go_wp2
        go_roundw
        case rel => exact ⟨j + 1, _, by omega, by go_num, by go_num, row_set HG'.out _ _, by simpa using hs, marks_step (by omega) HA'.out, hchg.setCell hbg hgh _⟩
        case measure => simp [intOf]; omega
      · obtain rfl : j = n := by omega
        go_wp2
        go_ret
        exact ⟨rfl, marks_end HG'.out hbg hgh hnc hcm hs h0 hk HA'.out, hchg⟩

/-- heldIntS over a row of the caller's. -/
theorem heldRow (v : Value) (k m : Int) (n lo hi : Nat) (w : World) (h0 : 0 ≤ k) (hk : k + n ≤ 4611686018427387904) (hm : m = k + n) (hv : Rw w lo hi v (marks k n)) :
    Calls Try.prog 21 #[v, .int .i64 k] w fun e w' => e = .returned (.int .i64 m) ∧ w = w' := by
  subst hm; exact heldInts v k n hi w h0 hk hv.isI
end Go.Proofs.Ytkaanlldjkflaaa
