/- What is proved here: contracts of the functions that take differences, and of CleanTable. -/
import Derived.Test.YtkiebajggombiaaSlc
set_option linter.unusedVariables false
set_option linter.unusedSimpArgs false
namespace Go.Proofs.Ytkiebajggombiaa
open Go.RowKit

theorem dF_take {xs : List Int} {j : Nat} (h : j + 1 < xs.length) : (dF xs).take (j + 1) = (dF xs).take j ++ [el xs (j + 1) - el xs j] := by
  rw [take_el (by rw [dF_len]; omega), dF_el h]

theorem c_l2Next (v : Value) (xs : List Int) (b : Int) (w : World) (hv : IsI w w.heap.size v xs) (hb0 : b ≤ 2305843009213693952) (hR : Bd b xs) (hl : xs.length ≤ 1000000) :
    Calls Try.prog 101 #[v] w (RetRow w (dF xs)) := by
  obtain ⟨a, cap, rfl, hm, hr, hc⟩ := hv
  unfold maxLen at hm
  have HRD := hid ((dF_bd hR).r64 (by omega))
  have HBD := hid hR
  have HL := hid (dF_len xs)
  clear hr hR
  go_enter Try.func101, Try.ntmps101
  go_wp2
  go_loopw [3, 4] (fun v i wr => ∃ j : Nat, j ≤ xs.length ∧ i = .int .i64 j ∧ OwnI wr w.heap.size v ((dF xs).take j) ∧ Below w.heap.size w wr) (fun _ i _ => xs.length - (intOf i).toNat)
  case atStart => exact ⟨0, Nat.zero_le _, rfl, OwnI.empty _ (Nat.le_refl _) rfl, (Below.refl _ _).alloc (Nat.le_refl _) _⟩
  case round =>
    obtain ⟨j, hj, rfl, hown, hbel⟩ := hrel
    have hsz := hbel.size
    have hyl : ((dF xs).take j).length ≤ 1000000 := by have := List.length_take_le j (dF xs); omega
    by_cases hlt : j + 1 < xs.length
    · obtain ⟨bk, off, rfl, hb, hcell⟩ := hc j (by omega)
      have hce := (hbel.cell (p := ⟨bk, off + j, none⟩) hb).trans (hcell j (by omega))
      have hce' := (hbel.cell (p := ⟨bk, off + (j + 1), none⟩) hb).trans (hcell (j + 1) hlt)
      obtain ⟨r1, r2⟩ := HBD.out j (by omega)
      obtain ⟨r3, r4⟩ := HBD.out (j + 1) hlt
      have HP := hid (dF_take hlt)
      have k1 : IntKind.i64.wrap ((j : Int) + 1) = (j : Int) + 1 := IntWalk.i64_in _ (by omega)
      have k2 : IntKind.i64.wrap (el xs (j + 1) - el xs j) = el xs (j + 1) - el xs j := IntWalk.i64_in _ (by omega)
      have k3 : ((j : Int) + 1).toNat = j + 1 := by omega
      have k4 : 0 ≤ (j : Int) + 1 := by omega
      have k5 : (j : Int) + 1 < xs.length := by omega
      have k6 : (j : Int) < xs.length := by omega
      have k7 : 0 ≤ (j : Int) := by omega
      clear hc hcell
      go_wp2_with fail
      go_region_held3 (fun w' => w'.cell? ⟨bk, off + j, none⟩ = some (.int .i64 (el xs j)) ∧ w'.cell? ⟨bk, off + (j + 1), none⟩ = some (.int .i64 (el xs (j + 1))))
        (first | go_keep | exact ⟨(hb1.cell (p := ⟨bk, off + j, none⟩) hb).trans hce, (hb1.cell (p := ⟨bk, off + (j + 1), none⟩) hb).trans hce'⟩)
        (first | (refine step_appI rfl _ _ _ rfl Try.underlying23 Try.infoInt w.heap.size _ _ rfl rfl hown (by omega) hsz ?_; intro v1 w1 hown1 hb1))
      go_wp2
      go_roundw
      case rel => exact ⟨j + 1, by omega, by go_num, by rw [HP.out]; exact hown1, hbel.trans hb1⟩
      case measure => simp [intOf]; omega
    · clear hc
      go_wp2
      go_ret
      rw [List.take_of_length_le (by rw [HL.out]; omega)] at hown
      exact ⟨_, rfl, hown.rw HRD.out (Nat.le_refl _), hbel⟩

theorem c_neighbors (v : Value) (xs : List Int) (b : Int) (w : World) (hv : IsI w w.heap.size v xs) (hb0 : b ≤ 2305843009213693952) (hR : Bd b xs) (hl : xs.length ≤ 1000000) :
    Calls Try.prog 99 #[v] w (RetRow w (dF xs)) := by
  obtain ⟨a, cap, rfl, hm, hr, hc⟩ := hv
  unfold maxLen at hm
  have HRD := hid ((dF_bd hR).r64 (by omega))
  have HBD := hid hR
  have HL := hid (dF_len xs)
  clear hr hR
  by_cases h2 : xs.length < 2
  · have HE : Hid (dF xs = []) := List.eq_nil_of_length_eq_zero (by rw [HL.out]; omega)
    rw [HE.out]
    clear hc
    go_enter Try.func99, Try.ntmps99
    go_wp2
    go_ret
    exact ⟨_, rfl, Rw.nil _ _ _, Below.refl _ _⟩
  · have HM := made_zero (xs.length - 1)
    have hmk := mk_ints Try.underlying23 Try.infoInt (xs.length - 1) (by omega)
    generalize hn : xs.length - 1 = n at *
    have hxn : xs.length = n + 1 := by omega
    have HXN := hid hxn
    generalize madeCells #[Value.int .i64 0] n = mc at *
    have HM' := hid HM
    clear HM hn
    rw [hxn] at hc hm h2 hl ⊢
    clear hxn
    have hmk' : ∀ (W : World), (Instr.makeSlice 23 (.int .i64 (((n + 1 : Nat) : Int) - 1)) (.int .i64 (((n + 1 : Nat) : Int) - 1))).run Try.prog W = .ok (.slice (some ⟨W.heap.size, 0, none⟩) n n) (W.alloc (.cells mc 3)) := by
      intro W
      rw [show ((n + 1 : Nat) : Int) - 1 = (n : Int) by omega]; exact hmk W
    have hmk2 : ∀ (W : World), (Instr.makeSlice 23 (.int .i64 ((n : Int) + 1 - 1)) (.int .i64 ((n : Int) + 1 - 1))).run Try.prog W = .ok (.slice (some ⟨W.heap.size, 0, none⟩) n n) (W.alloc (.cells mc 3)) := by
      intro W
      rw [show (n : Int) + 1 - 1 = (n : Int) by omega]; exact hmk W
    go_enter Try.func99, Try.ntmps99
    go_wp2
    go_loopw [14] (fun i wr => ∃ (j : Nat) (ys : List Int), j ≤ n ∧ i = .int .i64 j ∧ Blk wr w.heap.size ys ∧ ys.length = n ∧ ys.take j = (dF xs).take j ∧ Below w.heap.size w wr) (fun i _ => n - (intOf i).toNat)
    case atStart => exact ⟨0, List.replicate n 0, Nat.zero_le _, rfl, Blk.new HM'.out, by simp, by simp, (Below.refl _ _).alloc (Nat.le_refl _) _⟩
    case round =>
      obtain ⟨j, ys, hj, rfl, HB, hlen, HTk, hbel⟩ := hrel
      have HTk' := hid HTk
      have HLy := hid hlen
      clear HTk hlen hmk hmk' hmk2
      by_cases hlt : j < n
      · obtain ⟨bk, off, rfl, hb, hcell⟩ := hc j (by omega)
        have hce := (hbel.cell (p := ⟨bk, off + j, none⟩) hb).trans (hcell j (by omega))
        have hce' := (hbel.cell (p := ⟨bk, off + (j + 1), none⟩) hb).trans (hcell (j + 1) (by omega))
        obtain ⟨r1, r2⟩ := HBD.out j (by rw [HXN.out]; omega)
        obtain ⟨r3, r4⟩ := HBD.out (j + 1) (by rw [HXN.out]; omega)
        have hd := HB.cell j (by rw [HLy.out]; exact hlt)
        have hf := HB.free j
        have k1 : IntKind.i64.wrap ((j : Int) + 1) = (j : Int) + 1 := IntWalk.i64_in _ (by omega)
        have k2 : IntKind.i64.wrap (el xs (j + 1) - el xs j) = el xs (j + 1) - el xs j := IntWalk.i64_in _ (by omega)
        have k3 : ((j : Int) + 1).toNat = j + 1 := by omega
        have k4 : 0 ≤ (j : Int) + 1 := by omega
        have k5 : (j : Int) + 1 < ((n + 1 : Nat) : Int) := by omega
        have k6 : (j : Int) < ((n + 1 : Nat) : Int) := by omega
        have k7 : 0 ≤ (j : Int) := by omega
        have k8 : (j : Int) < (n : Int) := by omega
        clear hc hcell
        have k9 : (j : Int) + 1 < (n : Int) + 1 := by omega
        have k10 : (j : Int) < (n : Int) + 1 := by omega
        have hne : ¬ bk = w.heap.size := by omega
        go_wp2_with fail
        go_region_held3 (fun w' => w'.cell? ⟨bk, off + j, none⟩ = some (.int .i64 (el xs j)) ∧ w'.cell? ⟨bk, off + (j + 1), none⟩ = some (.int .i64 (el xs (j + 1))))
          (first | exact ⟨cell_other_d hne hce, cell_other_d hne hce'⟩ | exact ⟨hce, hce'⟩ | go_keep)
          (fail)
        go_wp2
        go_roundw
        case rel => exact ⟨j + 1, _, by omega, by go_num, HB.set _ _, by simpa using HLy.out, take_set (by rw [HL.out]; omega) (by rw [HLy.out, HL.out]) (dF_el (by rw [HXN.out]; omega)).symm HTk'.out, (hbel.setCell (p := ⟨w.heap.size, j, none⟩) (Nat.le_refl _) _).drew⟩
        case measure => simp [intOf]; omega
      · clear hc
        go_wp2
        go_ret
        have e1 := HLy.out
        have e2 := HL.out
        have e3 := HTk'.out
        rw [List.take_of_length_le (by omega), List.take_of_length_le (by omega)] at e3
        subst e3
        have hlt' := HB.lt
        have hw := HB.rw (Nat.le_refl _) hlt' (by unfold maxLen; omega) HRD.out
        rw [e2] at hw
        exact ⟨_, rfl, hw, hbel⟩

theorem dN_small {xs : List Int} {n : Nat} (h : TB xs = true) (hn : n ≤ 7) : Bd 128000000000 (dN xs n) := by
  refine (dN_bd (TB_Bd h) n).mono ?_
  have : (2 : Int) ^ n ≤ 128 := by
    match n, hn with
    | 0, _ => decide
    | 1, _ => decide
    | 2, _ => decide
    | 3, _ => decide
    | 4, _ => decide
    | 5, _ => decide
    | 6, _ => decide
    | 7, _ => decide
  omega

theorem c_l4Row (v : Value) (xs : List Int) (n : Nat) (w : World) (hv : IsI w w.heap.size v xs) (hT : TB xs = true) (hn : n ≤ 7) :
    Calls Try.prog 78 #[v, .int .i64 n] w (RetI w (dN xs n)) := by
  have HT := hid hT
  have hlx := (TB_iff.1 hT).2.1
  clear hT
  go_enter Try.func78, Try.ntmps78
  go_wp2
  go_loopw [5, 6] (fun u i wr => ∃ j : Nat, j ≤ n ∧ i = .int .i64 j ∧ IsI wr wr.heap.size u (dN xs j) ∧ Below w.heap.size w wr) (fun _ i _ => n - (intOf i).toNat)
  case atStart => exact ⟨0, Nat.zero_le _, rfl, hv, Below.refl _ _⟩
  case round =>
    obtain ⟨j, hj, rfl, hu, hbel⟩ := hrel
    have hsz := hbel.size
    by_cases hlt : j < n
    · have HB := hid (dN_small HT.out (show j ≤ 7 by omega))
      have HLn := dN_len xs j
      have hlb : (dN xs j).length ≤ 1000000 := by omega
      clear HLn
      go_wp2_with (go_at_call 101; refine (c_l2Next _ _ _ _ hu (by omega) HB.out hlb).mono ?_; rintro e w1 ⟨v1, rfl, hr1, hb1⟩)
      go_roundw
      case rel => exact ⟨j + 1, by omega, by go_num, hr1.isI, hbel.trans (hb1.mono (by omega))⟩
      case measure => simp [intOf]; omega
    · obtain rfl : j = n := by omega
      go_wp2
      go_ret
      exact ⟨_, rfl, hu, hbel⟩

theorem c_differences (v : Value) (xs : List Int) (n : Nat) (w : World) (hv : IsI w w.heap.size v xs) (hT : TB xs = true) (hn : n ≤ 7) :
    Calls Try.prog 72 #[v, .int .i64 n] w (RetI w (dN xs n)) := by
  have HT := hid hT
  have hlx := (TB_iff.1 hT).2.1
  clear hT
  go_enter Try.func72, Try.ntmps72
  go_wp2_with fail
  refine (c_CloneI _ xs _ (by omega) hv).mono ?_
  rintro e w1 ⟨v1, rfl, hr1, hb1⟩
  have hi1 := hr1.isI
  have hs1 := hb1.size
  clear hr1
  go_wp2_with fail
  go_loopw [5, 9] (fun u i wr => ∃ j : Nat, j ≤ n ∧ i = .int .i64 j ∧ IsI wr wr.heap.size u (dN xs j) ∧ Below w.heap.size w wr) (fun _ i _ => n - (intOf i).toNat)
  case atStart => exact ⟨0, Nat.zero_le _, rfl, hi1, hb1⟩
  case round =>
    obtain ⟨j, hj, rfl, hu, hbel⟩ := hrel
    have hsz := hbel.size
    by_cases hlt : j < n
    · have HB := hid (dN_small HT.out (show j ≤ 7 by omega))
      have HLn := dN_len xs j
      have hlb : (dN xs j).length ≤ 1000000 := by omega
      clear HLn
      go_wp2_with (go_at_call 99; refine (c_neighbors _ _ _ _ hu (by omega) HB.out hlb).mono ?_; rintro e w1 ⟨v1, rfl, hr1, hb1⟩)
      go_roundw
      case rel => exact ⟨j + 1, by omega, by go_num, hr1.isI, hbel.trans (hb1.mono (by omega))⟩
      case measure => simp [intOf]; omega
    · obtain rfl : j = n := by omega
      go_wp2
      go_ret
      exact ⟨_, rfl, hu, hbel⟩

/-- Whether all numbers are 0. -/
def az (xs : List Int) : Bool := alw 0 xs
theorem az_iff {xs : List Int} : az xs = true ↔ ∀ k, k < xs.length → el xs k = 0 := by
  unfold az; rw [alw_iff]
  exact ⟨fun h k hk => by have := h k hk; omega, fun h k hk => by have := h k hk; omega⟩
theorem az_no {xs : List Int} {k : Nat} (hk : k < xs.length) (h : el xs k ≠ 0) : az xs = false := by
  rw [← Bool.not_eq_true, az_iff]; exact fun h' => h (h' k hk)

theorem c_allZero (v : Value) (xs : List Int) (B : Nat) (w : World) (hv : IsI w B v xs) :
    Calls Try.prog 63 #[v] w fun e w' => e = .returned (.bool (az xs)) ∧ w = w' := by
  have H := hid hv
  go_enter Try.func63, Try.ntmps63
  go_wp2_with (go_at_call 83; refine (c_allWithin _ xs _ _ _ (by omega) (by omega) hv).mono ?_; rintro e w' ⟨rfl, rfl⟩)
  go_ret
  exact ⟨rfl, rfl⟩

theorem c_l2Zero (v : Value) (xs : List Int) (B : Nat) (w : World) (hv : IsI w B v xs) :
    Calls Try.prog 79 #[v] w fun e w' => e = .returned (.bool (az xs)) ∧ w = w' := by
  obtain ⟨a, cap, rfl, hm, hr, hc⟩ := hv
  unfold maxLen at hm
  clear hr
  go_enter Try.func79, Try.ntmps79
  go_wp2
  go_loop [3] (fun i => ∃ j : Nat, j ≤ xs.length ∧ i = .int .i64 j ∧ ∀ k, k < j → el xs k = 0) (fun i => xs.length - (intOf i).toNat)
  case atStart => exact ⟨0, Nat.zero_le _, rfl, fun k hk => by omega⟩
  case round =>
    obtain ⟨j, hj, rfl, HA⟩ := hrel
    have HA' := hid HA
    clear HA
    by_cases hlt : j < xs.length
    · obtain ⟨bk, off, rfl, hb, hcell⟩ := hc j hlt
      have hce := hcell j hlt
      clear hc hcell
      by_cases he : el xs j = 0
      · have HE := hid he
        have he' : (el xs j != 0) = false := by simpa using he
        clear he
        go_wp2
        go_round
        case rel => exact ⟨j + 1, by omega, by go_num, fun k hk => if e : k = j then e ▸ HE.out else HA'.out k (by omega)⟩
        case measure => simp [intOf]; omega
      · have HE := hid he
        have he' : (el xs j != 0) = true := by simpa using he
        clear he
        go_wp2
        go_ret
        exact ⟨retB (az_no hlt HE.out).symm, rfl⟩
    · clear hc
      go_wp2
      go_ret
      exact ⟨retB (az_iff.2 fun k hk => HA'.out k (by omega)).symm, rfl⟩

/-- Whether a table is clean for a degree. -/
def cleanF (xs : List Int) (d : Int) : Bool := TB xs && (inB d 0 6 && az (dN xs (d.toNat + 1)))
theorem c_iCleanTable (w : World) (v : Value) (xs : List Int) (hv : IsI w w.heap.size v xs) (d : Int) :
    Calls Try.prog 31 #[v, .int .i64 d] w fun e w' => e = .returned (.bool (cleanF xs d)) ∧ Below w.heap.size w w' := by
  by_cases hT : TB xs = true
  · by_cases hd : inB d 0 6 = true
    · have hd' := inB_iff.1 hd
      obtain ⟨k, rfl⟩ : ∃ k : Nat, d = k := ⟨d.toNat, by omega⟩
      have HC : Hid (cleanF xs k = az (dN xs (k + 1))) := by show cleanF xs k = _; simp [cleanF, hT, hd]
      have HT := hid hT
      go_enter Try.func31, Try.ntmps31
      go_wp2_with (first | (go_at_call 39; refine (c_iTableValid _ xs _ _ hv).mono ?_; rintro e w' ⟨rfl, rfl⟩) | (go_at_call 43; refine (c_degreeValid _ _).mono ?_; rintro e w' ⟨rfl, rfl⟩) | (go_at_call 72; refine (c_differences _ xs (k + 1) _ hv HT.out (by omega)).mono ?_; rintro e w1 ⟨v1, rfl, hi1, hb1⟩) | (go_at_call 63; refine (c_allZero _ _ _ _ hi1).mono ?_; rintro e w' ⟨rfl, rfl⟩))
      go_ret
      exact ⟨retB HC.out.symm, hb1⟩
    · have hd' : inB d 0 6 = false := by simpa using hd
      have HC : Hid (cleanF xs d = false) := by show cleanF xs d = _; simp [cleanF, hd']
      clear hd
      go_enter Try.func31, Try.ntmps31
      go_wp2_with (first | (go_at_call 39; refine (c_iTableValid _ xs _ _ hv).mono ?_; rintro e w' ⟨rfl, rfl⟩) | (go_at_call 43; refine (c_degreeValid _ _).mono ?_; rintro e w' ⟨rfl, rfl⟩))
      go_ret
      exact ⟨retB HC.out.symm, Below.refl _ _⟩
  · have hT' : TB xs = false := by simpa using hT
    have HC : Hid (cleanF xs d = false) := by show cleanF xs d = _; simp [cleanF, hT']
    clear hT
    go_enter Try.func31, Try.ntmps31
    go_wp2_with (go_at_call 39; refine (c_iTableValid _ xs _ _ hv).mono ?_; rintro e w' ⟨rfl, rfl⟩)
    go_ret
    exact ⟨retB HC.out.symm, Below.refl _ _⟩
theorem c_l4Degree (d : Int) (w : World) : Calls Try.prog 46 #[.int .i64 d] w fun e w' => e = .returned (.bool (inB d 0 6)) ∧ w = w' := by
  go_enter Try.func46, Try.ntmps46
  go_wp2_with (go_at_call 59; refine (c_l1In _ _ _ _).mono ?_; rintro e w' ⟨rfl, rfl⟩)
  go_ret
  exact ⟨rfl, rfl⟩
theorem c_l4Clean (v : Value) (xs : List Int) (k : Nat) (w : World) (hv : IsI w w.heap.size v xs) (hT : TB xs = true) (hk : k ≤ 6) :
    Calls Try.prog 74 #[v, .int .i64 k] w fun e w' => e = .returned (.bool (az (dN xs (k + 1)))) ∧ Below w.heap.size w w' := by
  have HT := hid hT
  clear hT
  go_enter Try.func74, Try.ntmps74
  go_wp2_with (first | (go_at_call 78; refine (c_l4Row _ xs (k + 1) _ hv HT.out (by omega)).mono ?_; rintro e w1 ⟨v1, rfl, hi1, hb1⟩) | (go_at_call 79; refine (c_l2Zero _ _ _ _ hi1).mono ?_; rintro e w' ⟨rfl, rfl⟩))
  go_ret
  exact ⟨rfl, hb1⟩
theorem c_sCleanTable (w : World) (v : Value) (xs : List Int) (hv : IsI w w.heap.size v xs) (d : Int) :
    Calls Try.prog 32 #[v, .int .i64 d] w fun e w' => e = .returned (.bool (cleanF xs d)) ∧ Below w.heap.size w w' := by
  by_cases hT : TB xs = true
  · by_cases hd : inB d 0 6 = true
    · have hd' := inB_iff.1 hd
      obtain ⟨k, rfl⟩ : ∃ k : Nat, d = k := ⟨d.toNat, by omega⟩
      have HC : Hid (cleanF xs k = az (dN xs (k + 1))) := by show cleanF xs k = _; simp [cleanF, hT, hd]
      have HT := hid hT
      go_enter Try.func32, Try.ntmps32
      go_wp2_with (first | (go_at_call 73; refine (c_sTableValid _ xs _ _ hv).mono ?_; rintro e w' ⟨rfl, rfl⟩) | (go_at_call 46; refine (c_l4Degree _ _).mono ?_; rintro e w' ⟨rfl, rfl⟩) | (go_at_call 74; refine (c_l4Clean _ xs k _ hv HT.out (by omega)).mono ?_; rintro e w1 ⟨rfl, hb1⟩))
      go_ret
      exact ⟨retB HC.out.symm, hb1⟩
    · have hd' : inB d 0 6 = false := by simpa using hd
      have HC : Hid (cleanF xs d = false) := by show cleanF xs d = _; simp [cleanF, hd']
      clear hd
      go_enter Try.func32, Try.ntmps32
      go_wp2_with (first | (go_at_call 73; refine (c_sTableValid _ xs _ _ hv).mono ?_; rintro e w' ⟨rfl, rfl⟩) | (go_at_call 46; refine (c_l4Degree _ _).mono ?_; rintro e w' ⟨rfl, rfl⟩))
      go_ret
      exact ⟨retB HC.out.symm, Below.refl _ _⟩
  · have hT' : TB xs = false := by simpa using hT
    have HC : Hid (cleanF xs d = false) := by show cleanF xs d = _; simp [cleanF, hT']
    clear hT
    go_enter Try.func32, Try.ntmps32
    go_wp2_with (go_at_call 73; refine (c_sTableValid _ xs _ _ hv).mono ?_; rintro e w' ⟨rfl, rfl⟩)
    go_ret
    exact ⟨retB HC.out.symm, Below.refl _ _⟩
end Go.Proofs.Ytkiebajggombiaa
