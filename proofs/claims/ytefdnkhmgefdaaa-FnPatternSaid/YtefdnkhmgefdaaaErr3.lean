/- What is proved here: contracts of the functions on remainders of tables and on exchanged digits. -/
import Derived.Test.YtefdnkhmgefdaaaNum
set_option linter.unusedVariables false
set_option linter.unusedSimpArgs false
namespace Go.Proofs.Ytefdnkhmgefdaaa
open Go.RowKit

/-- The remainders of a table. -/
def restF (xs : List Int) (m : Int) : List Int := if TB xs then xs.map (md · m) else []
theorem restF_ok {xs : List Int} {m : Int} (h : TB xs = true) : restF xs m = xs.map (md · m) := by simp [restF, h]
theorem restF_no {xs : List Int} {m : Int} (h : TB xs = false) : restF xs m = [] := by simp [restF, h]
theorem restF_len {xs : List Int} {m : Int} : (restF xs m).length ≤ 60 := by
  by_cases h : TB xs = true
  · rw [restF_ok h]; have := TB_iff.1 h; simp; omega
  · rw [restF_no (by simpa using h)]; simp
theorem rest_R {xs : List Int} {m : Int} (h0 : 0 < m) (h1 : m ≤ 1000) : R64 (xs.map (md · m)) := by
  intro x hx
  obtain ⟨y, _, rfl⟩ := List.mem_map.1 hx
  have a := md_nonneg y h0; have b := md_lt y h0; omega
theorem rest_take {xs : List Int} {m : Int} {j : Nat} (h : j < xs.length) : (xs.map (md · m)).take (j + 1) = (xs.map (md · m)).take j ++ [md (el xs j) m] := by
  rw [take_el (by simpa using h), el_map _ _ _ h, el_lt h]

theorem c_l4Rests (v : Value) (xs : List Int) (m : Int) (w : World) (h0 : 0 < m) (h1 : m ≤ 1000) (hv : IsI w w.heap.size v xs) :
    Calls Try.prog 71 #[v, .int .i64 m] w (RetRow w (restF xs m)) := by
  have hv0 := hv
  obtain ⟨a, cap, rfl, hm, hr, hc⟩ := hv
  unfold maxLen at hm
  clear hr
  by_cases hT : TB xs = true
  · have HT := hid hT
    have hl := (TB_iff.1 hT).2.1
    rw [restF_ok hT]
    go_enter Try.func71, Try.ntmps71
    go_wp2
    go_loopw [5, 6] (fun v i wr => ∃ j : Nat, j ≤ xs.length ∧ i = .int .i64 j ∧ OwnI wr w.heap.size v ((xs.map (md · m)).take j) ∧ Below w.heap.size w wr) (fun _ i _ => xs.length - (intOf i).toNat)
    case atStart => exact ⟨0, Nat.zero_le _, rfl, OwnI.empty _ (Nat.le_refl _) rfl, (Below.refl _ _).alloc (Nat.le_refl _) _⟩
    case round =>
      obtain ⟨j, hj, rfl, hown, hbel⟩ := hrel
      have hsz := hbel.size
      have hvr := hv0.below hbel (Nat.le_refl _)
      by_cases hlt : j < xs.length
      · obtain ⟨b, off, rfl, hb, hcell⟩ := hc j hlt
        have hce := (hbel.cell (p := ⟨b, off + j, none⟩) hb).trans (hcell j hlt)
        have HP := hid (rest_take (m := m) hlt)
        have hmd := md_nonneg (el xs j) h0
        have hmd' := md_lt (el xs j) h0
        clear hc hcell
        go_wp2_with (first | (go_at_call 59; refine (c_sTableValid _ xs _ _ hvr).mono ?_; rintro e w' ⟨rfl, rfl⟩) | (go_at_call 67; refine (c_l4Rest _ _ _ h0 (by omega)).mono ?_; rintro e w' ⟨rfl, rfl⟩) | (at_builtin; refine wpList_appI rfl _ _ _ rfl Try.underlying22 Try.infoInt w.heap.size _ _ rfl rfl hown (by have := List.length_take_le j (xs.map (md · m)); omega) hsz ?_; intro v1 w1 hown1 hb1))
        go_roundw
        case rel => exact ⟨j + 1, by omega, by go_num, by rw [HP.out]; exact hown1, hbel.trans hb1⟩
        case measure => simp [intOf]; omega
      · clear hc
        go_wp2
        go_ret
        obtain rfl : j = xs.length := by omega
        rw [List.take_of_length_le (by simp)] at hown
        exact ⟨_, rfl, hown.rw (rest_R h0 h1) (Nat.le_refl _), hbel⟩
  · have hT' : TB xs = false := by simpa using hT
    rw [restF_no hT']
    clear hT hc
    have hvr := hv0.below (RetRow.e1 w (.cells #[] 3)) (Nat.le_refl _)
    by_cases h0' : 0 < xs.length
    · go_enter Try.func71, Try.ntmps71
      go_wp2
      refine wp_loop_rounds 1 ?_
      rw [rounds_succ]
      go_wp2_with (go_at_call 59; refine (c_sTableValid _ xs _ _ hvr).mono ?_; rintro e w' ⟨rfl, rfl⟩)
      go_ret
      exact ⟨_, rfl, RetRow.e0 _ rfl, RetRow.e1 _ _⟩
    · go_enter Try.func71, Try.ntmps71
      go_wp2
      refine wp_loop_rounds 1 ?_
      rw [rounds_succ]
      go_wp2
      go_ret
      exact ⟨_, rfl, RetRow.e0 _ rfl, RetRow.e1 _ _⟩

theorem c_remaindersOf (v : Value) (xs : List Int) (m : Int) (w : World) (h0 : 0 < m) (h1 : m ≤ 1000) (hv : IsI w w.heap.size v xs) :
    Calls Try.prog 70 #[v, .int .i64 m] w (RetRow w (restF xs m)) := by
  have hv0 := hv
  obtain ⟨a, cap, rfl, hm, hr, hc⟩ := hv
  unfold maxLen at hm
  clear hr
  by_cases hT : TB xs = true
  · have HT := hid hT
    have hl := (TB_iff.1 hT).2.1
    rw [restF_ok hT]
    have HM := made_zero xs.length
    have hmk := mk_ints Try.underlying22 Try.infoInt xs.length (by omega)
    generalize madeCells #[Value.int .i64 0] xs.length = mc at *
    have HM' := hid HM
    clear HM hm
    go_enter Try.func70, Try.ntmps70
    go_wp2_with (go_at_call 27; refine (c_iTableValid _ xs _ _ hv0).mono ?_; rintro e w' ⟨rfl, rfl⟩)
    go_loopw [16] (fun i wr => ∃ (j : Nat) (ys : List Int), j ≤ xs.length ∧ i = .int .i64 j ∧ Blk wr w.heap.size ys ∧ ys.length = xs.length ∧ ys.take j = (xs.map (md · m)).take j ∧ Below w.heap.size w wr) (fun i _ => xs.length - (intOf i).toNat)
    case atStart => exact ⟨0, List.replicate xs.length 0, Nat.zero_le _, rfl, Blk.new HM'.out, by simp, by simp, (Below.refl _ _).alloc (Nat.le_refl _) _⟩
    case round =>
      obtain ⟨j, ys, hj, rfl, HB, hlen, HTk, hbel⟩ := hrel
      have HTk' := hid HTk
      have HL := hid hlen
      clear HTk hlen hmk
      by_cases hlt : j < xs.length
      · obtain ⟨b, off, rfl, hb, hcell⟩ := hc j hlt
        have hce := (hbel.cell (p := ⟨b, off + j, none⟩) hb).trans (hcell j hlt)
        have hmd := md_nonneg (el xs j) h0
        have hmd' := md_lt (el xs j) h0
        have hd := HB.cell j (by rw [HL.out]; exact hlt)
        have hf := HB.free j
        clear hc hcell
        go_wp2_with (go_at_call 66; refine (c_modulo _ _ _ h0 (by omega)).mono ?_; rintro e w' ⟨rfl, rfl⟩)
        go_roundw
        case rel => exact ⟨j + 1, _, by omega, by go_num, HB.set _ _, by simpa using HL.out, take_set (by simpa using hlt) (by rw [HL.out]; simp) (by rw [el_map _ _ _ hlt, el_lt hlt]) HTk'.out, hbel.setCell (Nat.le_refl _) _⟩
        case measure => simp [intOf]; omega
      · clear hc
        go_wp2
        go_ret
        have e1 := HL.out
        have e3 := HTk'.out
        rw [List.take_of_length_le (by omega), List.take_of_length_le (by simp; omega)] at e3
        subst e3
        have hlt' := HB.lt
        have hw := HB.rw (Nat.le_refl _) hlt' (by unfold maxLen; omega) (rest_R h0 h1)
        rw [e1] at hw
        exact ⟨_, rfl, hw, hbel⟩
  · have hT' : TB xs = false := by simpa using hT
    rw [restF_no hT']
    clear hT hc
    go_enter Try.func70, Try.ntmps70
    go_wp2_with (go_at_call 27; refine (c_iTableValid _ xs _ _ hv0).mono ?_; rintro e w' ⟨rfl, rfl⟩)
    go_ret
    exact ⟨_, rfl, Rw.nil _ _ _, Below.refl _ _⟩

theorem c_iElevensOf (w : World) (v : Value) (xs : List Int) (hv : IsI w w.heap.size v xs) : Calls Try.prog 30 #[v] w (RetRow w (restF xs 11)) := by
  go_enter Try.func30, Try.ntmps30
  go_wp2_with (go_at_call 70; refine (c_remaindersOf _ xs _ _ (by omega) (by omega) hv).mono ?_; rintro e w' ⟨v1, rfl, hr, hb⟩)
  go_ret
  exact ⟨_, rfl, hr, hb⟩
theorem c_sElevensOf (w : World) (v : Value) (xs : List Int) (hv : IsI w w.heap.size v xs) : Calls Try.prog 32 #[v] w (RetRow w (restF xs 11)) := by
  go_enter Try.func32, Try.ntmps32
  go_wp2_with (go_at_call 71; refine (c_l4Rests _ xs _ _ (by omega) (by omega) hv).mono ?_; rintro e w' ⟨v1, rfl, hr, hb⟩)
  go_ret
  exact ⟨_, rfl, hr, hb⟩
theorem c_iNinesOf (w : World) (v : Value) (xs : List Int) (hv : IsI w w.heap.size v xs) : Calls Try.prog 29 #[v] w (RetRow w (restF xs 9)) := by
  go_enter Try.func29, Try.ntmps29
  go_wp2_with (go_at_call 70; refine (c_remaindersOf _ xs _ _ (by omega) (by omega) hv).mono ?_; rintro e w' ⟨v1, rfl, hr, hb⟩)
  go_ret
  exact ⟨_, rfl, hr, hb⟩
theorem c_sNinesOf (w : World) (v : Value) (xs : List Int) (hv : IsI w w.heap.size v xs) : Calls Try.prog 31 #[v] w (RetRow w (restF xs 9)) := by
  go_enter Try.func31, Try.ntmps31
  go_wp2_with (go_at_call 71; refine (c_l4Rests _ xs _ _ (by omega) (by omega) hv).mono ?_; rintro e w' ⟨v1, rfl, hr, hb⟩)
  go_ret
  exact ⟨_, rfl, hr, hb⟩

/-- The places of the first j entries whose remainder by 9 is not the given one. -/
def wnT (xs ys : List Int) : Nat → List Int
  | 0 => []
  | j + 1 => if md (el xs j) 9 = el ys j then wnT xs ys j else wnT xs ys j ++ [(j : Int)]
def wnF (xs ys : List Int) : List Int := if TB xs && decide (xs.length = ys.length) then wnT xs ys xs.length else []
theorem wnT_len (xs ys : List Int) (j : Nat) : (wnT xs ys j).length ≤ j := by
  induction j with
  | zero => exact Nat.zero_le _
  | succ j ih =>
    unfold wnT; split
    · omega
    · simp; omega
theorem wnT_R (xs ys : List Int) (j : Nat) (h : j ≤ 1000) : R64 (wnT xs ys j) := by
  induction j with
  | zero => exact R64.nil
  | succ j ih =>
    unfold wnT; split
    · exact ih (by omega)
    · exact (ih (by omega)).append (R64.one (by omega))
theorem wnF_len {xs ys : List Int} : (wnF xs ys).length ≤ 60 := by
  unfold wnF; split
  · rename_i h; simp only [Bool.and_eq_true] at h; have := TB_iff.1 h.1; have := wnT_len xs ys xs.length; omega
  · simp

theorem c_sWrongNines (w : World) (v : Value) (xs : List Int) (hv : IsI w w.heap.size v xs) (u : Value) (ys : List Int) (hu : IsI w w.heap.size u ys) :
    Calls Try.prog 26 #[v, u] w (RetRow w (wnF xs ys)) := by
  have hv0 := hv
  obtain ⟨a, cap, rfl, hm, hr, hc⟩ := hv
  obtain ⟨a', cap', rfl, hm', hr', hc'⟩ := hu
  unfold maxLen at hm hm'
  clear hr hr'
  by_cases hT : TB xs = true
  · have hl := (TB_iff.1 hT).2.1
    by_cases hL : xs.length = ys.length
    · have HW : Hid (wnF xs ys = wnT xs ys xs.length) := by show wnF xs ys = _; simp [wnF, hT, hL]
      rw [HW.out]
      have hL1 : ((xs.length : Int) == (ys.length : Int)) = true := by simp [hL]
      have HL := hid hL
      clear hL
      go_enter Try.func26, Try.ntmps26
      go_wp2
      go_loopw [5, 6] (fun v i wr => ∃ j : Nat, j ≤ xs.length ∧ i = .int .i64 j ∧ OwnI wr w.heap.size v (wnT xs ys j) ∧ Below w.heap.size w wr) (fun _ i _ => xs.length - (intOf i).toNat)
      case atStart => exact ⟨0, Nat.zero_le _, rfl, OwnI.empty _ (Nat.le_refl _) rfl, (Below.refl _ _).alloc (Nat.le_refl _) _⟩
      case round =>
        obtain ⟨j, hj, rfl, hown, hbel⟩ := hrel
        have hsz := hbel.size
        have hvr := hv0.below hbel (Nat.le_refl _)
        have hwl := wnT_len xs ys j
        by_cases hlt : j < xs.length
        · have hlt' : j < ys.length := by have := HL.out; omega
          obtain ⟨b, off, rfl, hb, hcell⟩ := hc j hlt
          have hce := (hbel.cell (p := ⟨b, off + j, none⟩) hb).trans (hcell j hlt)
          obtain ⟨b', off', rfl, hb', hcell'⟩ := hc' j hlt'
          have hce' := (hbel.cell (p := ⟨b', off' + j, none⟩) hb').trans (hcell' j hlt')
          clear hc hcell hc' hcell'
          by_cases he : md (el xs j) 9 = el ys j
          · have HP : Hid (wnT xs ys (j + 1) = wnT xs ys j) := by show wnT xs ys (j + 1) = _; simp [wnT, he]
            have he1 : (md (el xs j) 9 != el ys j) = false := by simpa using he
            clear he
            go_wp2_with (go_at_call 59; refine (c_sTableValid _ xs _ _ hvr).mono ?_; rintro e w' ⟨rfl, rfl⟩)
            go_quiet ((go_at_call 67; exact cq (c_l4Rest _ _ _ (by omega) (by omega))))
            go_wp2
            go_roundw
            case rel => exact ⟨j + 1, by omega, by go_num, by rw [HP.out]; exact hown.drewN _, bel_drewN hbel _⟩
            case measure => simp [intOf]; omega
          · have HP : Hid (wnT xs ys (j + 1) = wnT xs ys j ++ [(j : Int)]) := by show wnT xs ys (j + 1) = _; simp [wnT, he]
            have he1 : (md (el xs j) 9 != el ys j) = true := by simpa using he
            clear he
            go_wp2_with (go_at_call 59; refine (c_sTableValid _ xs _ _ hvr).mono ?_; rintro e w' ⟨rfl, rfl⟩)
            go_quiet ((go_at_call 67; exact cq (c_l4Rest _ _ _ (by omega) (by omega))))
            go_wp2_with (at_builtin; refine wpList_appI rfl _ _ _ rfl Try.underlying22 Try.infoInt w.heap.size _ _ rfl rfl (hown.drewN nq) (by omega) (by simpa using hsz) ?_; intro v1 w1 hown1 hb1)
            go_roundw
            case rel => exact ⟨j + 1, by omega, by go_num, by rw [HP.out]; exact hown1, (bel_drewN hbel _).trans hb1⟩
            case measure => simp [intOf]; omega
        · clear hc hc'
          obtain rfl : j = xs.length := by omega
          go_wp2
          go_ret
          exact ⟨_, rfl, hown.rw (wnT_R _ _ _ (by omega)) (Nat.le_refl _), hbel⟩
    · have HW : Hid (wnF xs ys = []) := by show wnF xs ys = _; simp [wnF, hL]
      rw [HW.out]
      have hL1 : ((xs.length : Int) == (ys.length : Int)) = false := by simp; omega
      clear hL hc hc'
      have hvr := hv0.below (RetRow.e1 w (.cells #[] 3)) (Nat.le_refl _)
      have h0' : 0 < xs.length := by have := TB_iff.1 hT; omega
      go_enter Try.func26, Try.ntmps26
      go_wp2
      refine wp_loop_rounds 1 ?_
      rw [rounds_succ]
      go_wp2_with (go_at_call 59; refine (c_sTableValid _ xs _ _ hvr).mono ?_; rintro e w' ⟨rfl, rfl⟩)
      go_ret
      exact ⟨_, rfl, RetRow.e0 _ rfl, RetRow.e1 _ _⟩
  · have hT' : TB xs = false := by simpa using hT
    have HW : Hid (wnF xs ys = []) := by show wnF xs ys = _; simp [wnF, hT']
    rw [HW.out]
    clear hT hc hc'
    have hvr := hv0.below (RetRow.e1 w (.cells #[] 3)) (Nat.le_refl _)
    by_cases h0' : 0 < xs.length
    · go_enter Try.func26, Try.ntmps26
      go_wp2
      refine wp_loop_rounds 1 ?_
      rw [rounds_succ]
      go_wp2_with (go_at_call 59; refine (c_sTableValid _ xs _ _ hvr).mono ?_; rintro e w' ⟨rfl, rfl⟩)
      go_ret
      exact ⟨_, rfl, RetRow.e0 _ rfl, RetRow.e1 _ _⟩
    · go_enter Try.func26, Try.ntmps26
      go_wp2
      refine wp_loop_rounds 1 ?_
      rw [rounds_succ]
      go_wp2
      go_ret
      exact ⟨_, rfl, RetRow.e0 _ rfl, RetRow.e1 _ _⟩

theorem c_iWrongNines (w : World) (v : Value) (xs : List Int) (hv : IsI w w.heap.size v xs) (u : Value) (ys : List Int) (hu : IsI w w.heap.size u ys) :
    Calls Try.prog 24 #[v, u] w (RetRow w (wnF xs ys)) := by
  have hv0 := hv
  obtain ⟨a, cap, rfl, hm, hr, hc⟩ := hv
  obtain ⟨a', cap', rfl, hm', hr', hc'⟩ := hu
  unfold maxLen at hm hm'
  clear hr hr'
  by_cases hT : TB xs = true
  · have hl := (TB_iff.1 hT).2.1
    by_cases hL : ys.length = xs.length
    · have HW : Hid (wnF xs ys = wnT xs ys xs.length) := by show wnF xs ys = _; simp [wnF, hT, hL]
      rw [HW.out]
      have hL1 : ((ys.length : Int) != (xs.length : Int)) = false := by simp [hL]
      have HL := hid hL
      clear hL
      go_enter Try.func24, Try.ntmps24
      go_wp2_with (go_at_call 27; refine (c_iTableValid _ xs _ _ hv0).mono ?_; rintro e w' ⟨rfl, rfl⟩)
      go_loopw [5, 20] (fun v i wr => ∃ j : Nat, j ≤ xs.length ∧ i = .int .i64 j ∧ OwnI wr w.heap.size v (wnT xs ys j) ∧ Below w.heap.size w wr) (fun _ i _ => xs.length - (intOf i).toNat)
      case atStart => exact ⟨0, Nat.zero_le _, rfl, OwnI.nil _ _, Below.refl _ _⟩
      case round =>
        obtain ⟨j, hj, rfl, hown, hbel⟩ := hrel
        have hsz := hbel.size
        have hwl := wnT_len xs ys j
        by_cases hlt : j < xs.length
        · have hlt' : j < ys.length := by have := HL.out; omega
          obtain ⟨b, off, rfl, hb, hcell⟩ := hc j hlt
          have hce := (hbel.cell (p := ⟨b, off + j, none⟩) hb).trans (hcell j hlt)
          obtain ⟨b', off', rfl, hb', hcell'⟩ := hc' j hlt'
          have hce' := (hbel.cell (p := ⟨b', off' + j, none⟩) hb').trans (hcell' j hlt')
          clear hc hcell hc' hcell'
          by_cases he : md (el xs j) 9 = el ys j
          · have HP : Hid (wnT xs ys (j + 1) = wnT xs ys j) := by show wnT xs ys (j + 1) = _; simp [wnT, he]
            have he1 : (md (el xs j) 9 != el ys j) = false := by simpa using he
            clear he
            go_wp2
            go_quiet ((go_at_call 66; exact cq (c_modulo _ _ _ (by omega) (by omega))))
            go_wp2
            go_roundw
            case rel => exact ⟨j + 1, by omega, by go_num, by rw [HP.out]; exact hown.drewN _, bel_drewN hbel _⟩
            case measure => simp [intOf]; omega
          · have HP : Hid (wnT xs ys (j + 1) = wnT xs ys j ++ [(j : Int)]) := by show wnT xs ys (j + 1) = _; simp [wnT, he]
            have he1 : (md (el xs j) 9 != el ys j) = true := by simpa using he
            clear he
            go_wp2
            go_quiet ((go_at_call 66; exact cq (c_modulo _ _ _ (by omega) (by omega))))
            go_wp2_with (at_builtin; refine wpList_appI rfl _ _ _ rfl Try.underlying22 Try.infoInt w.heap.size _ _ rfl rfl (hown.drewN nq) (by omega) (by simpa using hsz) ?_; intro v1 w1 hown1 hb1)
            go_roundw
            case rel => exact ⟨j + 1, by omega, by go_num, by rw [HP.out]; exact hown1, (bel_drewN hbel _).trans hb1⟩
            case measure => simp [intOf]; omega
        · clear hc hc'
          obtain rfl : j = xs.length := by omega
          go_wp2
          go_ret
          exact ⟨_, rfl, hown.rw (wnT_R _ _ _ (by omega)) (Nat.le_refl _), hbel⟩
    · have HW : Hid (wnF xs ys = []) := by show wnF xs ys = _; simp [wnF, Ne.symm hL]
      rw [HW.out]
      have hL1 : ((ys.length : Int) != (xs.length : Int)) = true := by simpa using (by omega : ¬ (ys.length : Int) = xs.length)
      clear hL hc hc'
      go_enter Try.func24, Try.ntmps24
      go_wp2_with (go_at_call 27; refine (c_iTableValid _ xs _ _ hv0).mono ?_; rintro e w' ⟨rfl, rfl⟩)
      go_ret
      exact ⟨_, rfl, Rw.nil _ _ _, Below.refl _ _⟩
  · have hT' : TB xs = false := by simpa using hT
    have HW : Hid (wnF xs ys = []) := by show wnF xs ys = _; simp [wnF, hT']
    rw [HW.out]
    clear hT hc hc'
    go_enter Try.func24, Try.ntmps24
    go_wp2_with (go_at_call 27; refine (c_iTableValid _ xs _ _ hv0).mono ?_; rintro e w' ⟨rfl, rfl⟩)
    go_ret
    exact ⟨_, rfl, Rw.nil _ _ _, Below.refl _ _⟩

/-- A number with two neighboring digits exchanged. -/
def exF (n : Int) (p : Nat) : Int := n + (n / ten p % 10 - n / ten p / 10 % 10) * ten p * 10 + (n / ten p / 10 % 10 - n / ten p % 10) * ten p
def exOk (n p : Int) : Bool := inB n 0 1000000000 && inB p 0 8
def exV (n p : Int) : Int := if exOk n p then exF n p.toNat else 0
theorem exF_alt (n : Int) (p : Nat) : n + (n / (ten p * 10) % 10 - n / ten p % 10) * ten p + (n / ten p % 10 - n / (ten p * 10) % 10) * ten p * 10 = exF n p := by
  have h := ten_pos p
  have e : n / (ten p * 10) = n / ten p / 10 := by rw [Int.ediv_ediv_of_nonneg (by omega)]
  rw [e]; unfold exF; omega


end Go.Proofs.Ytefdnkhmgefdaaa
