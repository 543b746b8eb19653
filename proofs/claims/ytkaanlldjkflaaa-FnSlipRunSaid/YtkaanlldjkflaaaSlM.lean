/- What is proved here: plain facts: the results of an engine with a slip are those without it and the effect of the slip, modulo the size of its columns. -/
import Derived.Test.YtkaanlldjkflaaaSlr
set_option linter.unusedVariables false
set_option linter.unusedSimpArgs false
namespace Go.Proofs.Ytkaanlldjkflaaa
open Go.RowKit

theorem ch_pascal : ∀ m, m < 61 → ∀ k, k < 6 → chF (((m : Nat) + 1 : Nat) : Int) (k + 1) = chF ((m : Nat) : Int) (k + 1) + chF ((m : Nat) : Int) k := by decide +kernel
theorem ch_none : ∀ k, k < 7 → chF ((0 : Nat) : Int) (k + 1) = 0 := by decide
/-- By how much column i differs m turns after a slip of column c by a. -/
def dfN (a : Int) (c m i : Nat) : Int := if i ≤ c then a * chF (m : Int) (c - i) else 0
theorem vl_plC {a b : ByteArray} : ∃ q : Int, vl (plC a b) = vl a + vl b + q * ten a.size := by
  have hp := ten_pos a.size
  rw [plC, vl_shB (md_nonneg _ (by omega)) (md_lt _ (by omega))]
  refine ⟨-((vl a + vl b) / ten a.size), ?_⟩
  have h := Int.emod_add_mul_ediv (vl a + vl b) (ten a.size)
  have hm : md (vl a + vl b) (ten a.size) = (vl a + vl b) % ten a.size := rfl
  have e : -((vl a + vl b) / ten a.size) * ten a.size = -(ten a.size * ((vl a + vl b) / ten a.size)) := by rw [Int.neg_mul, Int.mul_comm]
  rw [hm, e]; omega
theorem vl_slC {s : ByteArray} {a : Int} : ∃ q : Int, vl (slC s a) = vl s + a + q * ten s.size := by
  have hp := ten_pos s.size
  rw [slC, vl_shB (md_nonneg _ (by omega)) (md_lt _ (by omega))]
  refine ⟨-((vl s + a) / ten s.size), ?_⟩
  have h := Int.emod_add_mul_ediv (vl s + a) (ten s.size)
  have hm : md (vl s + a) (ten s.size) = (vl s + a) % ten s.size := rfl
  have e : -((vl s + a) / ten s.size) * ten s.size = -(ten s.size * ((vl s + a) / ten s.size)) := by rw [Int.neg_mul, Int.mul_comm]
  rw [hm, e]; omega
theorem sg_vl (s : ByteArray) : ∃ q : Int, sgN s = vl s + q * ten s.size := by
  unfold sgN; split
  · exact ⟨-1, by omega⟩
  · exact ⟨0, by omega⟩
theorem dfN_step {a : Int} {c m i : Nat} (hm : m < 61) (hc : c ≤ 6) : dfN a c (m + 1) i = dfN a c m i + (if i < c then a * chF (m : Int) (c - (i + 1)) else 0) := by
  unfold dfN
  by_cases h : i < c
  · rw [if_pos (by omega), if_pos (by omega), if_pos h]
    obtain ⟨k, hk⟩ : ∃ k, c - i = k + 1 := ⟨c - i - 1, by omega⟩
    rw [hk, show c - (i + 1) = k by omega, ch_pascal m hm k (by omega), Int.mul_add]
  · rw [if_neg h]
    by_cases h2 : i ≤ c
    · rw [if_pos h2, if_pos h2, show c - i = 0 by omega]; simp [chF]
    · rw [if_neg h2, if_neg h2]; rfl
theorem dfN_next {a : Int} {c m i : Nat} : dfN a c m (i + 1) = (if i < c then a * chF (m : Int) (c - (i + 1)) else 0) := by
  unfold dfN
  by_cases h : i < c
  · rw [if_pos (by omega), if_pos h]
  · rw [if_neg (by omega), if_neg h]
/-- Ahead of the slip the columns are those without it. -/
theorem rs_before {cs : List ByteArray} {c a : Int} {tt : Nat} : ∀ n, n ≤ tt → rsC cs tt c a n = tuK cs n := by
  intro n
  induction n with
  | zero => intro _; rfl
  | succ n ih =>
    intro h
    rw [rsC, ih (by omega), tuK, rsS, if_neg (by omega)]
theorem tuK_size0 {cs : List ByteArray} (h : EGV cs = true) : ∀ n, (tC (tuK cs n) 0).size = (tC cs 0).size := by
  intro n
  induction n with
  | zero => rfl
  | succ n ih =>
    rw [tuK, tuN_at (by rw [tuK_len]; exact (EGV_iff.1 h).1.1), ← ih]
    split
    · exact plC_size _ _
    · rfl
theorem rs_size0 {cs : List ByteArray} {t a : Int} {c : Nat} (hE : EGV cs = true) (hc : c < cs.length) : ∀ n, (tC (rsC cs t c a n) 0).size = (tC cs 0).size := by
  intro n
  induction n with
  | zero => rfl
  | succ n ih =>
    have hl : (rsS (rsC cs t c a n) t c a n).length = cs.length := by rw [rsS_len, rsC_len]
    have h1 : (tC (rsS (rsC cs t c a n) t c a n) 0).size = (tC cs 0).size := by
      rw [rsS]; split
      · rw [tC_set (by rw [rsC_len]; simpa using hc)]
        split
        · rw [slC, shB_size]
          have h2 := EGV_iff.1 (EGV_rsC (t := t) (c := c) (a := a) hE (show (c : Int).toNat < cs.length by simpa using hc) n)
          rw [(h2.2 _ (by rw [rsC_len]; simpa using hc)).2]; exact ih
        · exact ih
      · exact ih
    rw [rsC, tuN_at (by omega), ← h1]
    split
    · exact plC_size _ _
    · rfl
theorem rs_sizeS {cs : List ByteArray} {t a : Int} {c : Nat} (hE : EGV cs = true) (hc : c < cs.length) (n : Nat) : (tC (rsS (rsC cs t c a n) t c a n) 0).size = (tC cs 0).size := by
  rw [rsS]; split
  · rw [tC_set (by rw [rsC_len]; simpa using hc)]
    split
    · rw [slC, shB_size]
      have h2 := EGV_iff.1 (EGV_rsC (t := t) (c := c) (a := a) hE (show (c : Int).toNat < cs.length by simpa using hc) n)
      rw [(h2.2 _ (by rw [rsC_len]; simpa using hc)).2]; exact rs_size0 hE hc n
    · exact rs_size0 hE hc n
  · exact rs_size0 hE hc n
theorem rs_after {cs : List ByteArray} {a : Int} {c tt : Nat} (hE : EGV cs = true) (hc : c < cs.length) (hc6 : c ≤ 6) :
    ∀ m, m ≤ 60 → ∀ i, i < cs.length → ∃ q : Int, vl (tC (rsS (rsC cs tt c a (tt + m)) tt c a (tt + m)) i) = vl (tC (tuK cs (tt + m)) i) + dfN a c m i + q * ten (tC cs 0).size := by
  have hsz : ∀ n i, i < cs.length → (tC (tuK cs n) i).size = (tC cs 0).size := fun n i hi => by
    rw [((EGV_iff.1 (EGV_tuK hE n)).2 i (by rw [tuK_len]; exact hi)).2, tuK_size0 hE]
  intro m
  induction m with
  | zero =>
    intro _ i hi
    rw [Nat.add_zero, rs_before tt (Nat.le_refl _), rsS, if_pos rfl, Int.toNat_natCast, tC_set (by rw [tuK_len]; exact hc)]
    by_cases e : c = i
    · subst e
      rw [if_pos rfl]
      obtain ⟨q, hq⟩ := vl_slC (s := tC (tuK cs tt) c) (a := a)
      refine ⟨q, ?_⟩
      rw [hq, hsz tt c hi, dfN, if_pos (Nat.le_refl _), Nat.sub_self]
      simp [chF]
    · rw [if_neg e]
      refine ⟨0, ?_⟩
      have : dfN a c 0 i = 0 := by
        unfold dfN
        by_cases h : i ≤ c
        · rw [if_pos h]
          obtain ⟨k, hk⟩ : ∃ k, c - i = k + 1 := ⟨c - i - 1, by omega⟩
          rw [hk, ch_none k (by omega), Int.mul_zero]
        · rw [if_neg h]
      rw [this]; omega
  | succ m ih =>
    intro hm i hi
    have ih' := ih (by omega)
    have hlX : (rsS (rsC cs tt c a (tt + m)) tt c a (tt + m)).length = cs.length := by rw [rsS_len, rsC_len]
    have hEX : EGV (rsS (rsC cs tt c a (tt + m)) tt c a (tt + m)) = true := EGV_rsS (EGV_rsC hE (by simpa using hc) _) (by rw [rsC_len]; simpa using hc)
    rw [show tt + (m + 1) = (tt + m) + 1 by omega]
    rw [rsS, if_neg (by omega), rsC, tuK]
    obtain ⟨X, hX⟩ : ∃ X, rsS (rsC cs tt c a (tt + m)) tt c a (tt + m) = X := ⟨_, rfl⟩
    rw [hX] at hlX hEX ih' ⊢
    obtain ⟨Y, hY⟩ : ∃ Y, tuK cs (tt + m) = Y := ⟨_, rfl⟩
    have hsY := hsz (tt + m)
    have hlY : Y.length = cs.length := by rw [← hY]; exact tuK_len cs _
    rw [hY] at ih' hsY ⊢
    rw [tuN_at (by omega), tuN_at (by omega), hlX, hlY]
    have hsX0 : (tC X i).size = (tC cs 0).size := by
      have h1 := ((EGV_iff.1 hEX).2 i (by omega)).2
      rw [h1, ← hX]; exact rs_sizeS hE hc _
    by_cases hl : i + 1 < cs.length
    · rw [if_pos hl, if_pos hl]
      obtain ⟨q1, h1⟩ := ih' i hi
      obtain ⟨q2, h2⟩ := ih' (i + 1) hl
      obtain ⟨q3, h3⟩ := vl_plC (a := tC X i) (b := tC X (i + 1))
      obtain ⟨q4, h4⟩ := vl_plC (a := tC Y i) (b := tC Y (i + 1))
      rw [h3, h4, h1, h2, hsX0, hsY i hi, dfN_step (by omega) hc6, dfN_next]
      refine ⟨q1 + q2 + q3 - q4, ?_⟩
      simp only [Int.add_mul, Int.sub_mul]
      omega
    · rw [if_neg hl, if_neg hl]
      obtain ⟨q1, h1⟩ := ih' i hi
      refine ⟨q1, ?_⟩
      rw [h1, dfN_step (by omega) hc6, if_neg (by omega)]; omega
/-- The law. -/
theorem slip_law {cs : List ByteArray} {a t : Int} {c : Nat} (hE : EGV cs = true) (hc : c < cs.length) (hc6 : c ≤ 6) (ht : 0 ≤ t) {n : Nat} (hn : n < 60) :
    (∃ q : Int, rsR cs t c a n - plR cs n - effF c t a n = q * ten (tC cs 0).size) ∧ ((n : Int) < t → rsR cs t c a n = plR cs n) := by
  obtain ⟨tt, rfl⟩ : ∃ tt : Nat, t = tt := ⟨t.toNat, by omega⟩
  have h0 : 0 < cs.length := by omega
  by_cases h : (n : Int) < tt
  · have e : rsR cs tt c a n = plR cs n := by
      rw [rsR, plR, rs_before n (by omega), rsS, if_neg (by omega)]
    refine ⟨⟨0, ?_⟩, fun _ => e⟩
    rw [e, effF, if_pos h]; omega
  · refine ⟨?_, fun h2 => absurd h2 h⟩
    obtain ⟨m, rfl⟩ : ∃ m, n = tt + m := ⟨n - tt, by omega⟩
    obtain ⟨q1, h1⟩ := rs_after (a := a) (tt := tt) hE hc hc6 m (by omega) 0 h0
    have hX : EGV (rsS (rsC cs tt c a (tt + m)) tt c a (tt + m)) = true := EGV_rsS (EGV_rsC hE (by simpa using hc) _) (by rw [rsC_len]; simpa using hc)
    obtain ⟨q2, h2⟩ := sg_vl (tC (rsS (rsC cs tt c a (tt + m)) tt c a (tt + m)) 0)
    obtain ⟨q3, h3⟩ := sg_vl (tC (tuK cs (tt + m)) 0)
    have s2 : (tC (rsS (rsC cs tt c a (tt + m)) tt c a (tt + m)) 0).size = (tC cs 0).size := rs_sizeS hE hc _
    have s3 : (tC (tuK cs (tt + m)) 0).size = (tC cs 0).size := tuK_size0 hE _
    have e1 : effF c tt a ((tt + m : Nat) : Int) = dfN a c m 0 := by
      rw [effF, if_neg (by omega), dfN, if_pos (Nat.zero_le _), Nat.sub_zero, show ((tt + m : Nat) : Int) - (tt : Int) = (m : Int) by omega]
    rw [rsR, plR, h2, h3, s2, s3, h1, e1]
    refine ⟨q1 + q2 - q3, ?_⟩
    simp only [Int.add_mul, Int.sub_mul]
    omega
end Go.Proofs.Ytkaanlldjkflaaa
