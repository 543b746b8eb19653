/- What is proved here: the plain law of FnWholeProof: what an engine with a slip prints is the right table and the slip's effect, as long as the numbers fit; its errata correct it; the slip is found. No program in sight. -/
import Derived.Test.YtlinkeemccnfmaaGreatDoorSuM
import Derived.Test.YtlinkeemccnfmaaGreatDoorDfM
import Derived.Test.YtlinkeemccnfmaaGreatDoorEof
import Derived.Test.YtlinkeemccnfmaaGreatDoorApl2
import Derived.Test.YtlinkeemccnfmaaGreatDoorErM
set_option linter.unusedVariables false
set_option linter.unusedSimpArgs false
namespace Go.Proofs.YtlinkeemccnfmaaGreatDoor
open Go.RowKit

theorem e1B_app {zs r : List Int} {i : Nat} (h : (i + 1) * 3 ≤ zs.length) : e1B (zs ++ r) i = e1B zs i := by
  unfold e1B
  rw [el_append_left (by omega), el_append_left (by omega), el_append_left (by omega), el_append_left (by omega)]
theorem evB_app0 {zs r : List Int} {n : Nat} (h : n * 3 ≤ zs.length) : evB (zs ++ r) n = evB zs n := by
  induction n with
  | zero => rfl
  | succ n ih => rw [evB, evB, ih (by omega), e1B_app h]
theorem apT_app {ps zs r : List Int} {n : Nat} (h : n * 3 ≤ zs.length) : apT ps (zs ++ r) n = apT ps zs n := by
  induction n with
  | zero => rfl
  | succ n ih => rw [apT, apT, ih (by omega), el_append_left (by omega), el_append_left (by omega), el_append_left (by omega)]
theorem er_fit {xs ys : List Int} (hx : TB xs = true) (hy : TB ys = true) (hl : xs.length = ys.length) : ∀ j, j ≤ xs.length →
    evB (erT xs ys j) (erN xs ys j) = true ∧ (erN xs ys j = 0 ∨ el (erT xs ys j) (erN xs ys j * 3 - 3) < j) ∧
    ∃ out, apT ys (erT xs ys j) (erN xs ys j) = some out ∧ out.length = xs.length ∧ ∀ i, i < xs.length → el out i = if i < j then el xs i else el ys i := by
  intro j
  induction j with
  | zero => intro _; exact ⟨rfl, .inl rfl, ys, rfl, hl.symm, fun i hi => by rw [if_neg (by omega)]⟩
  | succ j ih =>
    intro hj
    obtain ⟨h1, h2, out, h3, h4, h5⟩ := ih (by omega)
    have bx := (TB_iff.1 hx).2.2 j (by omega)
    have by' := (TB_iff.1 hy).2.2 j (by omega)
    have h60 := (TB_iff.1 hx).2.1
    by_cases e : el xs j = el ys j
    · rw [erT_same e, erN_same e]
      refine ⟨h1, by omega, out, h3, h4, fun i hi => ?_⟩
      rw [h5 i hi]
      by_cases e2 : i = j
      · subst e2; rw [if_neg (by omega), if_pos (by omega), e]
      · by_cases e3 : i < j
        · rw [if_pos e3, if_pos (by omega)]
        · rw [if_neg e3, if_neg (by omega)]
    · have hL := erT_len xs ys j
      rw [erT_new e, erN_new e]
      have g0 : el (erT xs ys j ++ [(j : Int), el ys j, el xs j]) (erN xs ys j * 3) = j := by rw [el_append_right (by omega), hL, Nat.sub_self]; rfl
      have g1 : el (erT xs ys j ++ [(j : Int), el ys j, el xs j]) (erN xs ys j * 3 + 1) = el ys j := by
        rw [el_append_right (by omega), hL, show erN xs ys j * 3 + 1 - erN xs ys j * 3 = 1 by omega]; rfl
      have g2 : el (erT xs ys j ++ [(j : Int), el ys j, el xs j]) (erN xs ys j * 3 + 2) = el xs j := by
        rw [el_append_right (by omega), hL, show erN xs ys j * 3 + 2 - erN xs ys j * 3 = 2 by omega]; rfl
      refine ⟨?_, .inr ?_, ?_⟩
      · rw [evB, evB_app0 (by omega), h1, Bool.true_and, e1B_iff, g0, g1, g2]
        refine ⟨by omega, ?_, by omega, by omega, fun h => e h.symm⟩
        rcases h2 with h2 | h2
        · exact .inl h2
        · by_cases e0 : erN xs ys j = 0
          · exact .inl e0
          · right; rw [el_append_left (by omega)]; exact h2
      · rw [show (erN xs ys j + 1) * 3 - 3 = erN xs ys j * 3 by omega, g0]; omega
      · have h6 := apT_fit (ps := ys) (zs := erT xs ys j ++ [(j : Int), el ys j, el xs j]) (j := erN xs ys j) (out := out) (by rw [apT_app (by omega)]; exact h3) (by
          rw [g0, g1, Int.toNat_natCast, h5 j (by omega), if_neg (by omega)]; omega)
        rw [g0, g2, Int.toNat_natCast] at h6
        refine ⟨_, h6, by simpa using h4, fun i hi => ?_⟩
        by_cases e2 : j = i
        · subst e2; rw [el_set_same (by omega), if_pos (by omega)]
        · rw [el_set_other e2, h5 i hi]
          by_cases e3 : i < j
          · rw [if_pos e3, if_pos (by omega)]
          · rw [if_neg e3, if_neg (by omega)]
theorem er_right {xs ys : List Int} (h : alike2 xs ys = true) : apF ys (erF xs ys) = xs ∧ apOk ys (erF xs ys) = true := by
  obtain ⟨hx, hy, hl⟩ := al_len h
  obtain ⟨h1, _, out, h3, h4, h5⟩ := er_fit hx hy hl xs.length (Nat.le_refl _)
  have hL := erT_len xs ys xs.length
  rw [erF_yes h]
  have ho : out = xs := list_ext h4 fun k hk => by rw [h5 k (by omega), if_pos (by omega)]
  subst ho
  exact ap_some hL hy (by unfold EV; rw [hL, Nat.mul_div_cancel _ (by omega)]; exact h1) h3
theorem er_self {xs : List Int} : erF xs xs = [] := by
  have : ∀ j, erT xs xs j = [] := fun j => by induction j with
    | zero => rfl
    | succ j ih => rw [erT_same rfl, ih]
  unfold erF; split
  · exact this _
  · rfl

theorem EGV_suC {p : List Int} {n : Int} {k : Nat} (h : suB p n k = true) : EGV (suC p n k) = true := by
  have hs := suB_iff.1 h
  have hP : PV p = true := by have := hs.1; unfold shOk at this; rw [Bool.and_eq_true] at this; exact this.1
  obtain ⟨m0, m1, -⟩ := PV_iff.1 hP
  have h0 := cofB_iff.1 (hs.2 0 (by omega))
  refine EGV_iff.2 ⟨by rw [suC_len h]; omega, fun i hi => ?_⟩
  rw [suC_len h] at hi
  rw [suC_at h hi, suC_at h (by omega), cofS_yes (hs.2 i hi), cofS_yes (hs.2 0 (by omega)), shB_size, shB_size, Int.toNat_natCast]
  exact ⟨shB_CV h0.1.1 h0.1.2, rfl⟩
theorem size_suC {p : List Int} {n : Int} {k : Nat} (h : suB p n k = true) {i : Nat} (hi : i < p.length) : (tC (suC p n k) i).size = k := by
  rw [suC_at h hi, cofS_yes ((suB_iff.1 h).2 i hi), shB_size, Int.toNat_natCast]
/-- The columns after so many turns show the differences at a later argument. -/
theorem tu_val {p : List Int} {n : Int} {k : Nat} (h : suB p n k = true) (hn : -200 ≤ n ∧ n ≤ 200) : ∀ m : Nat, m ≤ 10 ∨ n + m ≤ 210 → ∀ i, i < p.length →
    (tC (tuK (suC p n k) m) i).size = k ∧ ∃ q : Int, vl (tC (tuK (suC p n k) m) i) = evF (p.drop i) (n + m) + q * ten k := by
  have hs := suB_iff.1 h
  have hP : PV p = true := by have := hs.1; unfold shOk at this; rw [Bool.and_eq_true] at this; exact this.1
  obtain ⟨m0, m1, -⟩ := PV_iff.1 hP
  have hk := (cofB_iff.1 (hs.2 0 (by omega))).1
  have hp := ten_pos k
  intro m
  induction m with
  | zero =>
    intro _ i hi
    refine ⟨size_suC h hi, ?_⟩
    rw [show tuK (suC p n k) 0 = suC p n k from rfl, suC_at h hi, cofS_yes (hs.2 i hi), Int.toNat_natCast, vl_shB (md_nonneg _ (by omega)) (md_lt _ (by omega)), shQ_el hi]
    refine ⟨-(evF (p.drop i) n / ten k), ?_⟩
    have h1 := Int.emod_add_mul_ediv (evF (p.drop i) n) (ten k)
    have hm : md (evF (p.drop i) n) (ten k) = evF (p.drop i) n % ten k := rfl
    have e : -(evF (p.drop i) n / ten k) * ten k = -(ten k * (evF (p.drop i) n / ten k)) := by rw [Int.neg_mul, Int.mul_comm]
    rw [hm, e, show n + ((0 : Nat) : Int) = n by omega]; omega
  | succ m ih =>
    intro hb i hi
    have ih' := ih (by omega)
    obtain ⟨s1, q1, h1⟩ := ih' i hi
    have hst := evF_step (p := p) m1 (n := n + m) (by omega) hi
    rw [show tuK (suC p n k) (m + 1) = tuN (tuK (suC p n k) m) from rfl, tuN_at (by rw [tuK_len, suC_len h]; exact hi), tuK_len, suC_len h]
    rw [show n + ((m + 1 : Nat) : Int) = n + m + 1 by omega, hst]
    by_cases hl : i + 1 < p.length
    · rw [if_pos hl]
      obtain ⟨s2, q2, h2⟩ := ih' (i + 1) hl
      refine ⟨by rw [plC_size]; exact s1, ?_⟩
      obtain ⟨q3, h3⟩ := vl_plC (a := tC (tuK (suC p n k) m) i) (b := tC (tuK (suC p n k) m) (i + 1))
      refine ⟨q1 + q2 + q3, ?_⟩
      rw [h3, h1, h2, s1]
      simp only [Int.add_mul]
      omega
    · rw [if_neg hl]
      refine ⟨s1, q1, ?_⟩
      have hd : p.drop (i + 1) = [] := List.drop_eq_nil_of_le (by omega)
      have h0 : evF (p.drop (i + 1)) (n + m) = 0 := by rw [hd]; rfl
      rw [h1, h0]; omega
theorem sgN_half {s : ByteArray} (h : CV s = true) : -(ten s.size / 2) ≤ sgN s ∧ sgN s < ten s.size / 2 := by
  have h1 := vl_bd h
  have h2 := ten_half (CV_iff.1 h).1.1
  unfold sgN; split <;> omega
/-- Two numbers of half a wheel's range that differ by whole turns are the same. -/
theorem same_mod {x y h T q : Int} (hT : T = 2 * h) (hx : -h ≤ x ∧ x < h) (hy : -h ≤ y ∧ y < h) (e : x - y = q * T) : x = y := by
  rcases (by omega : q ≤ -1 ∨ q = 0 ∨ 1 ≤ q) with h1 | h1 | h1
  · have := Int.mul_le_mul_of_nonneg_right h1 (show 0 ≤ T by omega)
    omega
  · subst h1; omega
  · have := Int.mul_le_mul_of_nonneg_right h1 (show 0 ≤ T by omega)
    omega
/-- What the engine prints where nothing slips. -/
theorem pl_right {p : List Int} {n : Int} {k : Nat} (h : suB p n k = true) (hn : -200 ≤ n ∧ n ≤ 200) {m : Nat} (hm : n + m ≤ 200) (hf : cofB (evF p (n + m)) k = true) : plR (suC p n k) m = evF p (n + m) := by
  have hs := suB_iff.1 h
  have hP : PV p = true := by have := hs.1; unfold shOk at this; rw [Bool.and_eq_true] at this; exact this.1
  obtain ⟨m0, m1, -⟩ := PV_iff.1 hP
  obtain ⟨s1, q1, h1⟩ := tu_val h hn m (by omega) 0 (by omega)
  have hE := EGV_tuK (EGV_suC h) m
  have hc := ((EGV_iff.1 hE).2 0 (by have := (EGV_iff.1 hE).1.1; omega)).1
  have hb := sgN_half hc
  obtain ⟨q2, h2⟩ := sg_vl (tC (tuK (suC p n k) m) 0)
  rw [s1] at hb h2
  rw [List.drop_zero] at h1
  have hk := cofB_iff.1 hf
  refine same_mod (h := ten k / 2) (T := ten k) (q := q1 + q2) (ten_half hk.1.1) hb hk.2 ?_
  show sgN (tC (tuK (suC p n k) m) 0) - _ = _
  rw [h2, h1]
  simp only [Int.add_mul]
  omega
theorem pl_range {p : List Int} {n : Int} {k : Nat} {t a : Int} {c : Nat} (h : suB p n k = true) (hc : c < p.length) (m : Nat) : -(ten k / 2) ≤ rsR (suC p n k) t c a m ∧ rsR (suC p n k) t c a m < ten k / 2 := by
  have hE := EGV_suC h
  have hc' : (c : Int).toNat < (suC p n k).length := by rw [suC_len h]; simpa using hc
  have hX : EGV (rsS (rsC (suC p n k) t c a m) t c a m) = true := EGV_rsS (EGV_rsC hE hc' _) (by rw [rsC_len]; exact hc')
  have h1 := ((EGV_iff.1 hX).2 0 (by have := (EGV_iff.1 hX).1.1; omega)).1
  have h2 := sgN_half h1
  rw [rs_sizeS hE (by rw [suC_len h]; exact hc), size_suC h (by omega)] at h2
  exact h2
/-- What is printed in a place in which the right number and the effect fit. -/
theorem printed_at {p : List Int} {n : Int} {k : Nat} {t a : Int} {c m : Nat} (h : suB p n k = true) (hn : -200 ≤ n ∧ n ≤ 200) (hcap : n + 11 ≤ 200) (hc : c < p.length) (hc6 : c ≤ 6) (ht : 0 ≤ t) (hm : m < 12)
    (hf : cofB (evF p (n + m)) k = true) (hg : cofB (evF p (n + m) + effF c t a m) k = true) : rsR (suC p n k) t c a m = evF p (n + m) + effF c t a m := by
  obtain ⟨⟨q, hq⟩, -⟩ := slip_law (EGV_suC h) (a := a) (t := t) (c := c) (by rw [suC_len h]; exact hc) hc6 ht (n := m) (by omega)
  rw [pl_right h hn (by omega) hf, size_suC h (by omega)] at hq
  have hk := cofB_iff.1 hg
  exact same_mod (h := ten k / 2) (T := ten k) (q := q) (ten_half hk.1.1) (pl_range h hc m) hk.2 (by omega)
/-- The right table, and the printed one. -/
def riL (p : List Int) (n : Int) : List Int := valF p n 1 12
def prL (cs : List ByteArray) (t c a : Int) : List Int := (List.range 12).map (rsR cs t c a)
theorem riL_len (p : List Int) (n : Int) : (riL p n).length = 12 := valF_len _ _ _ _
theorem riL_el {p : List Int} {n : Int} {m : Nat} (h : m < 12) : el (riL p n) m = evF p (n + m) := by
  unfold riL; rw [valF_el h, Int.one_mul]
theorem prL_len (cs : List ByteArray) (t c a : Int) : (prL cs t c a).length = 12 := by simp [prL]
theorem prL_el {cs : List ByteArray} {t c a : Int} {m : Nat} (h : m < 12) : el (prL cs t c a) m = rsR cs t c a m := by
  unfold prL; rw [el_map _ _ _ (by simpa using h)]; simp
theorem eff_none {c m : Nat} {t a : Int} (hc6 : c ≤ 6) (hm : m < 12) (h : a = 0 ∨ 12 ≤ t + c) : effF c t a m = 0 := by
  rcases h with h | h
  · subst h; unfold effF; split <;> simp
  · exact eff_before hc6 (by omega)
theorem whole_hidden {p : List Int} {n : Int} {k : Nat} {t a : Int} {c : Nat} (h : suB p n k = true) (hn : -200 ≤ n ∧ n ≤ 200) (hcap : n + 11 ≤ 200) (hc : c < p.length) (hc6 : c ≤ 6) (ht : 0 ≤ t)
    (hF : ∀ m : Nat, m < 12 → cofB (el (riL p n) m) k = true) (hh : a = 0 ∨ 12 ≤ t + c) : prL (suC p n k) t c a = riL p n := by
  refine list_ext (by rw [prL_len, riL_len]) fun m hm => ?_
  rw [prL_len] at hm
  have hf := hF m hm
  rw [riL_el hm] at hf
  have e0 := eff_none hc6 hm hh
  rw [prL_el hm, riL_el hm, printed_at h hn hcap hc hc6 ht hm hf (by rw [e0, Int.add_zero]; exact hf), e0, Int.add_zero]
theorem ch_small : ∀ c, c < 7 → ∀ m, m < 12 → 0 ≤ chF ((m : Nat) : Int) c ∧ chF ((m : Nat) : Int) c ≤ 1000 := by decide +kernel
theorem eff_small {c m : Nat} {t a : Int} (hc6 : c ≤ 6) (hm : m < 12) (ht : 0 ≤ t) (ha : -9 ≤ a ∧ a ≤ 9) : -9000 ≤ effF c t a m ∧ effF c t a m ≤ 9000 := by
  unfold effF
  split
  · omega
  · obtain ⟨j, hj⟩ : ∃ j : Nat, (m : Int) - t = j := ⟨((m : Int) - t).toNat, by omega⟩
    rw [hj]
    obtain ⟨h1, h2⟩ := ch_small c (by omega) j (by omega)
    exact mul_bd (A := 9) (B := 1000) (by omega) (by omega) (by omega) (by omega) (by omega)
theorem slip_ok12 {c : Nat} {t a : Int} (hc6 : c ≤ 6) (ht : 0 ≤ t ∧ t ≤ 59) (ha : -9 ≤ a ∧ a ≤ 9) : slipOk (c : Int) t a 12 = true := by
  unfold slipOk
  rw [slipB_iff.2 ⟨⟨by omega, by omega⟩, ht, by omega, by omega⟩, inB_yes (by omega) (by omega)]; rfl
theorem slip12_len {c : Nat} {t a : Int} (hok : slipOk (c : Int) t a 12 = true) : (slipF (c : Int) t a 12).length = 12 := by rw [slipF_ok hok]; simp
theorem TB_slip {c : Nat} {t a : Int} (hc6 : c ≤ 6) (ht : 0 ≤ t ∧ t ≤ 59) (ha : -9 ≤ a ∧ a ≤ 9) : TB (slipF (c : Int) t a 12) = true := by
  have hok := slip_ok12 hc6 ht ha
  have hl := slip12_len hok
  rw [TB_iff, hl]
  refine ⟨by omega, by omega, fun m hm => ?_⟩
  rw [slipF_el hok (show (m : Int) < 12 by omega), Int.toNat_natCast]
  have := eff_small hc6 hm ht.1 ha
  omega
theorem wr_slip {p : List Int} {n : Int} {k : Nat} {t a : Int} {c : Nat} (h : suB p n k = true) (hn : -200 ≤ n ∧ n ≤ 200) (hcap : n + 11 ≤ 200) (hc : c < p.length) (hc6 : c ≤ 6) (ht : 0 ≤ t ∧ t ≤ 59) (ha : -9 ≤ a ∧ a ≤ 9)
    (hF : ∀ m : Nat, m < 12 → cofB (el (riL p n) m) k = true) (hG : ∀ m : Nat, m < 12 → cofB (el (riL p n) m + el (slipF (c : Int) t a 12) m) k = true) : wrF (riL p n) (prL (suC p n k) t c a) = slipF (c : Int) t a 12 := by
  have hok := slip_ok12 hc6 ht ha
  have hl := slip12_len hok
  refine list_ext (by rw [wrF_len, riL_len, hl]) fun m hm => ?_
  rw [wrF_len, riL_len] at hm
  have hf := hF m hm
  have hg := hG m hm
  rw [slipF_el hok (show (m : Int) < 12 by omega), Int.toNat_natCast] at hg
  rw [riL_el hm] at hf hg
  rw [wrF_el (by rw [riL_len]; exact hm), prL_el hm, riL_el hm, slipF_el hok (show (m : Int) < 12 by omega), Int.toNat_natCast, printed_at h hn hcap hc hc6 ht.1 hm hf hg]
  omega
/-- What is diagnosed hangs on the differences alone. -/
theorem fdF_wr {xs ys : List Int} : ∀ m j, j + m ≤ xs.length → fdF xs ys j m = fdF (List.replicate xs.length 0) (wrF xs ys) j m := by
  intro m
  induction m with
  | zero => intro j _; rfl
  | succ m ih =>
    intro j hj
    unfold fdF
    rw [zeros_el, wrF_el (by omega), ih (j + 1) (by omega)]
    by_cases e : el xs j = el ys j
    · rw [if_pos e, if_pos (by omega)]
    · rw [if_neg e, if_neg (by omega)]
theorem diag_wr {xs ys : List Int} (hx : TB xs = true) (hy : TB ys = true) (hl : xs.length = ys.length) (hw : TB (wrF xs ys) = true) : diag xs ys = diag (List.replicate xs.length 0) (wrF xs ys) := by
  have h1 := (TB_iff.1 hx)
  have hz := TB_zero h1.1 h1.2.1
  have hf : firstF xs ys = firstF (List.replicate xs.length 0) (wrF xs ys) := by
    unfold firstF
    rw [List.length_replicate, fdF_wr _ _ (by omega)]
  unfold diag
  rw [hx, hy, hz, hw, hf, wrF_zero (wrF_len xs ys), List.length_replicate, wrF_len, hl]
theorem whole_shown {p : List Int} {n : Int} {k : Nat} {t a : Int} {c : Nat} (h : suB p n k = true) (hn : -200 ≤ n ∧ n ≤ 200) (hcap : n + 11 ≤ 200) (hc : c < p.length) (hc6 : c ≤ 6) (ht : 0 ≤ t ∧ t ≤ 59) (ha : -9 ≤ a ∧ a ≤ 9)
    (hF : ∀ m : Nat, m < 12 → cofB (el (riL p n) m) k = true) (hG : ∀ m : Nat, m < 12 → cofB (el (riL p n) m + el (slipF (c : Int) t a 12) m) k = true)
    (hx : TB (riL p n) = true) (hy : TB (prL (suC p n k) t c a) = true) (ha0 : a ≠ 0) (htc : t + c < 12) :
    ∃ c' : Nat, diag (riL p n) (prL (suC p n k) t c a) = ((c' : Int), t + c - c', a, true) ∧ (t + c + 1 < 12 → (c' : Int) = c) := by
  have hok := slip_ok12 hc6 ht ha
  have hT := TB_slip hc6 ht ha
  have hw := wr_slip h hn hcap hc hc6 ht ha hF hG
  rw [diag_wr hx hy (by rw [riL_len, prL_len]) (by rw [hw]; exact hT), hw, riL_len]
  obtain ⟨c', h1, h2, h3, h4, h5⟩ := diag_shown (n := 12) hok hT ha0 (by omega)
  exact ⟨c', h1, fun h => h5 (by omega)⟩
theorem diag_same {xs : List Int} : diag xs xs = (0, 0, 0, false) := by
  have hf : firstF xs xs = -1 := firstF_nowhere fun _ _ => rfl
  unfold diag
  rw [hf]
  split <;> rfl
theorem riL_bd {p : List Int} {n : Int} (hP : PV p = true) (hn : -200 ≤ n ∧ n ≤ 200) (m : Nat) (hm : m < 12) : -744862805260000000 ≤ el (riL p n) m ∧ el (riL p n) m ≤ 744862805260000000 :=
  valF_bd (PV_Bd hP) (PV_iff.1 hP).2.1 (fun j hj => by omega) m (by rw [valF_len]; exact hm)
theorem slip_bd {c : Nat} {t a : Int} (hc6 : c ≤ 6) (ht : 0 ≤ t ∧ t ≤ 59) (ha : -9 ≤ a ∧ a ≤ 9) (m : Nat) (hm : m < 12) : -9000 ≤ el (slipF (c : Int) t a 12) m ∧ el (slipF (c : Int) t a 12) m ≤ 9000 := by
  rw [slipF_el (slip_ok12 hc6 ht ha) (show (m : Int) < 12 by omega), Int.toNat_natCast]
  exact eff_small hc6 hm ht.1 ha
theorem rs_ok12 {p : List Int} {n : Int} {k c : Nat} {t a : Int} (h : suB p n k = true) (hc : c < p.length) (hc6 : c ≤ 6) (ht : 0 ≤ t ∧ t ≤ 59) (ha : -9 ≤ a ∧ a ≤ 9) : rsOk (suC p n k) 12 t (c : Int) a = true ∧ rsF (suC p n k) 12 t (c : Int) a = prL (suC p n k) t c a := by
  have hok : rsOk (suC p n k) 12 t (c : Int) a = true := by
    unfold rsOk
    rw [EGV_suC h, inB_yes (by omega) (by omega), slipB_iff.2 ⟨⟨by omega, by omega⟩, ht, by omega, by omega⟩, suC_len h]
    simp; omega
  exact ⟨hok, rsF_yes hok⟩
theorem al_two {xs ys : List Int} (hx : TB xs = true) (hy : TB ys = true) (hl : xs.length = ys.length) : alike2 xs ys = true := by
  unfold alike2; rw [hx, hy, decide_eq_true hl]; rfl
theorem erF_short {xs ys : List Int} (h : alike2 xs ys = true) : ∃ n, (erF xs ys).length = n * 3 ∧ n ≤ xs.length := by
  rw [erF_yes h]
  refine ⟨erN xs ys xs.length, erT_len _ _ _, ?_⟩
  have : ∀ j, erN xs ys j ≤ j := fun j => by
    induction j with
    | zero => exact Nat.le_refl _
    | succ j ih =>
      by_cases e : el xs j = el ys j
      · rw [erN_same e]; omega
      · rw [erN_new e]; omega
  exact this _
end Go.Proofs.YtlinkeemccnfmaaGreatDoor
