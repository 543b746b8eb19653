/- What is proved here: contracts of spec's PolyValid, l2Trim and DegreeOf. -/
import Derived.Test.YtkiebajggombiaaPol
set_option linter.unusedVariables false
set_option linter.unusedSimpArgs false
namespace Go.Proofs.Ytkiebajggombiaa
open Go.RowKit

/-- Whether numbers are the differences of a polynomial. -/
def PV (xs : List Int) : Bool := inB xs.length 1 7 && alw 100000 xs
theorem PV_iff {xs : List Int} : PV xs = true ↔ 1 ≤ xs.length ∧ xs.length ≤ 7 ∧ ∀ k, k < xs.length → -100000 ≤ el xs k ∧ el xs k ≤ 100000 := by
  rw [PV, Bool.and_eq_true, inB_iff, alw_iff]
  exact ⟨fun h => ⟨by omega, by omega, h.2⟩, fun h => ⟨by omega, h.2.2⟩⟩
theorem PV_alw {xs : List Int} (h : alw 100000 xs = true) : PV xs = inB xs.length 1 7 := by simp [PV, h]
theorem PV_no {xs : List Int} (h : alw 100000 xs = false) : PV xs = false := by simp [PV, h]
theorem PV_len {xs : List Int} (h : inB xs.length 1 7 = false) : PV xs = false := by simp [PV, h]
theorem PV_len' {xs : List Int} (h : inB xs.length 1 7 = true) : PV xs = alw 100000 xs := by simp [PV, h]
theorem PV_Bd {xs : List Int} (h : PV xs = true) : Bd 100000 xs := (PV_iff.1 h).2.2
theorem IsI.take {w : World} {B cap n : Nat} {a : Option Addr} {xs : List Int} (h : IsI w B (.slice a n cap) xs) {k : Nat} (hk : k ≤ xs.length) : IsI w B (.slice a k cap) (xs.take k) := by
  obtain ⟨a', cap', he, hm, hr, hc⟩ := h
  simp only [Value.slice.injEq] at he
  obtain ⟨rfl, rfl, rfl⟩ := he
  have hl : (xs.take k).length = k := by rw [List.length_take]; omega
  refine ⟨a, cap, by rw [hl], ⟨by omega, hm.2.1, hm.2.2⟩, hr.take k, fun i hi => ?_⟩
  obtain ⟨b, off, ha, hb, hcell⟩ := hc i (by omega)
  exact ⟨b, off, ha, hb, fun j hj => by rw [el_take (by omega)]; exact hcell j (by omega)⟩
theorem IsI.alloc {w : World} {B : Nat} {v : Value} {xs : List Int} (h : IsI w B v xs) (o : Obj) (hB : B ≤ w.heap.size) : IsI (w.alloc o) B v xs :=
  h.below ((Below.refl w.heap.size w).alloc (Nat.le_refl _) o) hB

theorem c_sPolyValid (v : Value) (xs : List Int) (B : Nat) (w : World) (hv : IsI w B v xs) :
    Calls Try.prog 90 #[v] w fun e w' => e = .returned (.bool (PV xs)) ∧ w = w' := by
  obtain ⟨a, cap, rfl, hm, hr, hc⟩ := hv
  unfold maxLen at hm
  clear hr
  go_enter Try.func90, Try.ntmps90
  go_wp2
  go_loop [3] (fun i => ∃ j : Nat, j ≤ xs.length ∧ i = .int .i64 j ∧ ∀ k, k < j → inB (el xs k) (-100000) 100000 = true) (fun i => xs.length - (intOf i).toNat)
  case atStart => exact ⟨0, Nat.zero_le _, rfl, fun k hk => by omega⟩
  case round =>
    obtain ⟨j, hj, rfl, HA⟩ := hrel
    have HA' : Hid (∀ k, k < j → inB (el xs k) (-100000) 100000 = true) := HA
    clear HA
    by_cases hlt : j < xs.length
    · obtain ⟨bk, off, rfl, hb, hcell⟩ := hc j hlt
      have hce := hcell j hlt
      clear hc hcell
      by_cases he : inB (el xs j) (-100000) 100000 = true
      · go_wp2_with (go_at_call 59; refine (c_l1In _ _ _ _).mono ?_; rintro e w' ⟨rfl, rfl⟩)
        go_round
        case rel => exact ⟨j + 1, by omega, by go_num, fun k hk => if e : k = j then e ▸ he else HA'.out k (by omega)⟩
        case measure => simp [intOf]; omega
      · have he' : inB (el xs j) (-100000) 100000 = false := by simpa using he
        have HE : Hid (inB (el xs j) (-100000) 100000 = false) := he'
        clear he
        go_wp2_with (go_at_call 59; refine (c_l1In _ _ _ _).mono ?_; rintro e w' ⟨rfl, rfl⟩)
        go_ret
        exact ⟨retB (PV_no (alw_no hlt HE.out)).symm, rfl⟩
    · clear hc
      go_wp2_with (go_at_call 59; refine (c_l1In _ _ _ _).mono ?_; rintro e w' ⟨rfl, rfl⟩)
      go_ret
      exact ⟨retB (PV_alw (alw_yes (by omega) HA'.out)).symm, rfl⟩

/-- How many of the first n numbers are left without the zeros at the end; one at least. -/
def trN (p : List Int) : Nat → Nat
  | 0 => 0
  | 1 => 1
  | n + 2 => if el p (n + 1) = 0 then trN p (n + 1) else n + 2
theorem trN_le (p : List Int) : ∀ n, trN p n ≤ n
  | 0 => Nat.le_refl _
  | 1 => Nat.le_refl _
  | n + 2 => by unfold trN; split; · have := trN_le p (n + 1); omega
                · omega
theorem trN_pos (p : List Int) : ∀ n, 1 ≤ n → 1 ≤ trN p n
  | 0, h => h
  | 1, _ => Nat.le_refl _
  | n + 2, _ => by unfold trN; split; · exact trN_pos p (n + 1) (by omega)
                   · omega
theorem trN_zero {p : List Int} {n : Nat} (h : 1 < n) (h0 : el p (n - 1) = 0) : trN p n = trN p (n - 1) := by
  obtain ⟨m, rfl⟩ : ∃ m, n = m + 2 := ⟨n - 2, by omega⟩
  show trN p (m + 2) = trN p (m + 1)
  rw [trN, if_pos (by simpa using h0)]
theorem trN_end {p : List Int} {n : Nat} (h : 1 < n → el p (n - 1) ≠ 0) : trN p n = n := by
  match n, h with
  | 0, _ => rfl
  | 1, _ => rfl
  | m + 2, h => rw [trN, if_neg (by simpa using h (by omega))]
def trimF (p : List Int) : List Int := p.take (trN p p.length)
theorem trimF_len (p : List Int) : (trimF p).length = trN p p.length := by
  unfold trimF; rw [List.length_take]; have := trN_le p p.length; omega
/-- The degree as both texts reckon it. -/
def degF (p : List Int) : Int := if PV p then (if trN p p.length = 1 ∧ el p 0 = 0 then -1 else (trN p p.length : Int) - 1) else -2
theorem degF_no {p : List Int} (h : PV p = false) : degF p = -2 := by simp [degF, h]
theorem degF_m1 {p : List Int} (h : PV p = true) (h1 : trN p p.length = 1) (h2 : el p 0 = 0) : degF p = -1 := by simp [degF, h, h1, h2]
theorem degF_yes {p : List Int} (h : PV p = true) (h1 : ¬ (trN p p.length = 1 ∧ el p 0 = 0)) : degF p = (trN p p.length : Int) - 1 := by
  unfold degF; rw [if_pos h, if_neg h1]
theorem degF_bd (p : List Int) : -2 ≤ degF p ∧ degF p ≤ (p.length : Int) - 1 ∨ (p.length = 0 ∧ degF p = -2) := by
  have h1 := trN_le p p.length
  have h2 := trN_pos p p.length
  unfold degF
  split
  · rename_i h; have := (PV_iff.1 h).1; split <;> omega
  · omega

theorem c_l2Trim (v : Value) (p : List Int) (w : World) (hl : p.length ≤ 1000000) (hv : IsI w w.heap.size v p) :
    Calls Try.prog 110 #[v] w (RetRow w (trimF p)) := by
  have hv' := hv
  obtain ⟨a, cap, rfl, hm, hr, hc⟩ := hv
  unfold maxLen at hm
  have HR := hid hr
  clear hr
  go_enter Try.func110, Try.ntmps110
  go_wp2
  go_loop [3] (fun i => ∃ j : Nat, j ≤ p.length ∧ i = .int .i64 j ∧ Hid (trN p p.length = trN p j)) (fun i => (intOf i).toNat)
  case atStart => exact ⟨p.length, Nat.le_refl _, rfl, rfl⟩
  case round =>
    obtain ⟨j, hj, rfl, HA⟩ := hrel
    by_cases hlt : 1 < j
    · obtain ⟨b, off, rfl, hb, hcell⟩ := hc (j - 1) (by omega)
      have hce := hcell (j - 1) (by omega)
      have k1 : IntKind.i64.wrap ((j : Int) - 1) = (j : Int) - 1 := IntWalk.i64_in _ (by omega)
      have k2 : ((j : Int) - 1).toNat = j - 1 := by omega
      have k3 : 0 ≤ (j : Int) - 1 := by omega
      have k4 : 1 < (j : Int) := by omega
      clear hc hcell
      by_cases h0 : el p (j - 1) = 0
      · have h0' : (el p (j - 1) == 0) = true := by simpa using h0
        have HT := hid (trN_zero hlt h0)
        clear h0
        go_wp2
        go_round
        case rel => exact ⟨j - 1, by omega, by rw [show ((j - 1 : Nat) : Int) = (j : Int) - 1 by omega], by show _ = _; rw [HA.out]; exact HT.out⟩
        case measure => simp [intOf]; omega
      · have h0' : (el p (j - 1) == 0) = false := by simpa using h0
        have HT := hid (trN_end (p := p) (n := j) (fun _ => h0))
        have hut := (hv'.take hj).alloc (.cells #[] 3) (Nat.le_refl _)
        have htl : (p.take j).length = j := by rw [List.length_take]; omega
        have HTL := hid htl
        have k5 : (j : Int) ≤ cap := by omega
        have k6 : 0 ≤ (j : Int) := by omega
        clear h0 htl hv'
        go_wp2_with (at_builtin; refine wpList_appIs rfl _ _ _ rfl Try.underlying23 Try.infoInt w.heap.size (.slice (some ⟨w.heap.size, 0, none⟩) 0 0) [] (by rfl) (OwnI.empty w (Nat.le_refl _) rfl) _ _ _ hut (by rfl) (by rw [HTL.out]; simp; omega) (by simp) ?_; intro v1 w1 hown1 hb1)
        go_ret
        refine ⟨_, rfl, ?_, (RetRow.e1 _ _).trans hb1⟩
        unfold trimF
        rw [HA.out, HT.out]
        exact OwnI.rw hown1 (HR.out.take j) (Nat.le_refl _)
    · have HT := hid (trN_end (p := p) (n := j) (fun h => absurd h hlt))
      have hut := (hv'.take hj).alloc (.cells #[] 3) (Nat.le_refl _)
      have htl : (p.take j).length = j := by rw [List.length_take]; omega
      have HTL := hid htl
      have k5 : (j : Int) ≤ cap := by omega
      have k6 : 0 ≤ (j : Int) := by omega
      have k4 : ¬ 1 < (j : Int) := by omega
      clear htl hv' hc
      go_wp2_with (at_builtin; refine wpList_appIs rfl _ _ _ rfl Try.underlying23 Try.infoInt w.heap.size (.slice (some ⟨w.heap.size, 0, none⟩) 0 0) [] (by rfl) (OwnI.empty w (Nat.le_refl _) rfl) _ _ _ hut (by rfl) (by rw [HTL.out]; simp; omega) (by simp) ?_; intro v1 w1 hown1 hb1)
      go_ret
      refine ⟨_, rfl, ?_, (RetRow.e1 _ _).trans hb1⟩
      unfold trimF
      rw [HA.out, HT.out]
      exact OwnI.rw hown1 (HR.out.take j) (Nat.le_refl _)
theorem c_sDegreeOf (v : Value) (p : List Int) (w : World) (hv : IsI w w.heap.size v p) :
    Calls Try.prog 98 #[v] w fun e w' => e = .returned (.int .i64 (degF p)) ∧ Below w.heap.size w w' := by
  by_cases hP : PV p = true
  · have HP := hid hP
    have hl := (PV_iff.1 hP).2.1
    have hl1 := (PV_iff.1 hP).1
    go_enter Try.func98, Try.ntmps98
    go_wp2_with fail
    refine (c_sPolyValid _ p _ _ hv).mono ?_
    rw [hP]
    rintro e w' ⟨rfl, rfl⟩
    clear hP
    go_wp2_with fail
    refine (c_l2Trim _ p _ (by omega) hv).mono ?_
    rintro e w1 ⟨v1, rfl, r1, b1⟩
    have h2 := trN_pos p p.length hl1
    have h3 := trN_le p p.length
    have HL := hid (trimF_len p)
    obtain ⟨g, cap, rfl, _, _, _, hcell, hf⟩ := r1.split (by rw [HL.out]; omega)
    have hce := hcell 0 (by rw [HL.out]; omega)
    have he0 : el (trimF p) 0 = el p 0 := by unfold trimF; exact el_take (by omega)
    rw [he0] at hce
    rw [HL.out]
    clear hcell hf r1 he0
    by_cases h4 : trN p p.length = 1
    · have k1 : ((trN p p.length : Int) == 1) = true := by simpa using (by omega : (trN p p.length : Int) = 1)
      have H4 := hid h4
      clear h4
      by_cases h5 : el p 0 = 0
      · have k2 : (el p 0 == 0) = true := by simpa using h5
        have H5 := hid h5
        clear h5
        go_wp2
        go_ret
        exact ⟨retI (degF_m1 HP.out H4.out H5.out).symm, b1⟩
      · have k2 : (el p 0 == 0) = false := by simpa using h5
        have H5 := hid h5
        clear h5
        go_wp2
        go_ret
        exact ⟨retI (degF_yes HP.out (fun h => H5.out h.2)).symm, b1⟩
    · have k1 : ((trN p p.length : Int) == 1) = false := by simpa using (by omega : ¬ (trN p p.length : Int) = 1)
      have H4 := hid h4
      clear h4
      go_wp2
      go_ret
      exact ⟨retI (degF_yes HP.out (fun h => H4.out h.1)).symm, b1⟩
  · have hP' : PV p = false := by simpa using hP
    rw [degF_no hP']
    go_enter Try.func98, Try.ntmps98
    go_wp2_with fail
    refine (c_sPolyValid _ p _ _ hv).mono ?_
    rw [hP']
    rintro e w' ⟨rfl, rfl⟩
    go_wp2
    go_ret
    exact ⟨rfl, Below.refl _ _⟩
end Go.Proofs.Ytkiebajggombiaa
