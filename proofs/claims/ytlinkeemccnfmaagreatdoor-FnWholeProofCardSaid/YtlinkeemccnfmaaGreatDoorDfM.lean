/- What is proved here: those statements of DfM that this claim needs. -/
import Derived.Test.YtlinkeemccnfmaaGreatDoorErr2
import Derived.Test.YtlinkeemccnfmaaGreatDoorDsM
set_option linter.unusedVariables false
set_option linter.unusedSimpArgs false
namespace Go.Proofs.YtlinkeemccnfmaaGreatDoor
open Go.RowKit
theorem ch_lt : ∀ c, c < 7 → ∀ m, m < c → chF ((m : Nat) : Int) c = 0 := by decide
theorem ch_self : ∀ c, c < 7 → chF ((c : Nat) : Int) c = 1 := by decide
theorem ch_next : ∀ c, c < 7 → chF ((c : Nat) + 1 : Int) c = (c : Int) + 1 := by decide
theorem eff_before {c : Nat} {t a n : Int} (hc : c ≤ 6) (h : n < t + c) : effF c t a n = 0 := by
  unfold effF; split
  · rfl
  · obtain ⟨m, hm⟩ : ∃ m : Nat, n - t = m := ⟨(n - t).toNat, by omega⟩
    rw [hm, ch_lt c (by omega) m (by omega), Int.mul_zero]
theorem eff_at {c : Nat} {t a : Int} (hc : c ≤ 6) : effF c t a (t + c) = a := by
  unfold effF; rw [if_neg (by omega), show t + (c : Int) - t = c by omega, ch_self c (by omega), Int.mul_one]
theorem eff_next {c : Nat} {t a : Int} (hc : c ≤ 6) : effF c t a (t + c + 1) = a * ((c : Int) + 1) := by
  unfold effF; rw [if_neg (by omega), show t + (c : Int) + 1 - t = (c : Int) + 1 by omega, ch_next c (by omega)]
theorem zeros_el {n k : Nat} : el (List.replicate n 0) k = 0 := by
  by_cases h : k < n
  · rw [el_lt (by simpa using h)]; simp
  · rw [el_ge (by simpa using (by omega : n ≤ k))]
theorem wrF_zero {xs : List Int} {n : Nat} (h : xs.length = n) : wrF (List.replicate n 0) xs = xs := by
  refine list_ext (by rw [wrF_len]; simpa using h.symm) fun k hk => ?_
  rw [wrF_len] at hk
  rw [wrF_el hk, zeros_el]; omega
theorem TB_zero {n : Nat} (h0 : 1 ≤ n) (h1 : n ≤ 60) : TB (List.replicate n 0) = true := by
  rw [TB_iff]; refine ⟨by simpa using h0, by simpa using h1, fun k _ => by rw [zeros_el]; omega⟩
theorem dgF_find (W : List Int) (f c : Nat) : ∀ (n i : Nat), i ≤ c → c < i + n → expl W c ((f : Int) - c) (el W f) = true → ∃ c', dgF W f i n = some c' ∧ c' ≤ c ∧ expl W c' ((f : Int) - c') (el W f) = true := by
  intro n
  induction n with
  | zero => intro i h1 h2; omega
  | succ n ih =>
    intro i h1 h2 h3
    unfold dgF
    by_cases h : expl W i ((f : Int) - i) (el W f) = true
    · rw [if_pos h]; exact ⟨i, rfl, h1, h⟩
    · rw [if_neg h]
      have hne : i ≠ c := fun e => h (e ▸ h3)
      exact ih (i + 1) (by omega) (by omega) h3
theorem firstF_here {xs ys : List Int} {j : Nat} (hj : j < xs.length) (h : ∀ k, k < j → el xs k = el ys k) (hd : el xs j ≠ el ys j) : firstF xs ys = j := by
  unfold firstF
  rcases fdF_spec xs ys xs.length 0 with ⟨h1, h2⟩ | ⟨f, h1, h2, h3, h4, h5⟩
  · exact absurd (h2 j (Nat.zero_le _) (by omega)) hd
  · rw [h1]
    rcases Nat.lt_trichotomy f j with h' | h' | h'
    · exact absurd (h f h') h4
    · rw [h']
    · exact absurd (h5 j (Nat.zero_le _) h') hd
theorem firstF_nowhere {xs ys : List Int} (h : ∀ k, k < xs.length → el xs k = el ys k) : firstF xs ys = -1 := by
  unfold firstF
  rcases fdF_spec xs ys xs.length 0 with ⟨h1, h2⟩ | ⟨f, h1, h2, h3, h4, h5⟩
  · exact h1
  · exact absurd (h f (by omega)) h4
theorem diag_hidden {c t a : Int} {n : Nat} (hok : slipOk c t a n = true) (hT : TB (slipF c t a n) = true) (h : a = 0 ∨ (n : Int) ≤ t + c) : diag (List.replicate n 0) (slipF c t a n) = (0, 0, 0, false) := by
  have hk := hok
  simp only [slipOk, Bool.and_eq_true, inB_iff, slipB_iff] at hk
  have hf : firstF (List.replicate n 0) (slipF c t a n) = -1 := by
    refine firstF_nowhere fun k hkk => ?_
    simp at hkk
    rw [zeros_el, slipF_el hok (by omega)]
    rcases h with h | h
    · subst h; unfold effF; split <;> simp
    · rw [eff_before (by omega) (by omega)]
  unfold diag
  rw [hf]
  split <;> rfl
theorem diag_shown {c t a : Int} {n : Nat} (hok : slipOk c t a n = true) (hT : TB (slipF c t a n) = true) (ha : a ≠ 0) (h : t + c < n) :
    ∃ c' : Nat, diag (List.replicate n 0) (slipF c t a n) = ((c' : Int), t + c - c', a, true) ∧ (c' : Int) ≤ c ∧ slipB c' (t + c - c') a = true ∧ slipF c' (t + c - c') a n = slipF c t a n ∧ (t + c + 1 < n → (c' : Int) = c) := by
  have hk := hok
  simp only [slipOk, Bool.and_eq_true, inB_iff, slipB_iff] at hk
  obtain ⟨⟨⟨hc0, hc1⟩, ⟨ht0, ht1⟩, ha0, ha1⟩, hn0, hn1⟩ := hk
  obtain ⟨k, rfl⟩ : ∃ k : Nat, c = k := ⟨c.toNat, by omega⟩
  obtain ⟨u, rfl⟩ : ∃ u : Nat, t = u := ⟨t.toNat, by omega⟩
  have hlen : (slipF (k : Int) u a n).length = n := by rw [slipF_ok hok]; simp
  have hW := wrF_zero hlen
  have hf : firstF (List.replicate n 0) (slipF (k : Int) u a n) = ((u + k : Nat) : Int) := by
    refine firstF_here (by simp; omega) (fun j hj => ?_) ?_
    · rw [zeros_el, slipF_el hok (by omega), eff_before (by omega) (by omega)]
    · rw [zeros_el, slipF_el hok (by omega), show ((u + k : Nat) : Int) = (u : Int) + k by omega]
      show 0 ≠ effF k u a (u + k)
      rw [eff_at (by omega)]; exact fun e => ha e.symm
  have hel : el (slipF (k : Int) u a n) (u + k) = a := by
    rw [slipF_el hok (by omega), show ((u + k : Nat) : Int) = (u : Int) + k by omega]
    exact eff_at (by omega)
  have hx : expl (slipF (k : Int) u a n) k (((u + k : Nat) : Int) - k) (el (slipF (k : Int) u a n) (u + k)) = true := by
    rw [hel, show ((u + k : Nat) : Int) - k = u by omega]
    unfold expl
    rw [hlen, eqL_self, Bool.and_true]
    exact slipB_iff.2 ⟨by omega, by omega, by omega⟩
  obtain ⟨c', h1, h2, h3⟩ := dgF_find (slipF (k : Int) u a n) (u + k) k (dgN (u + k)) 0 (Nat.zero_le _) (by unfold dgN; omega) hx
  rw [hel, show ((u + k : Nat) : Int) - (c' : Int) = (u : Int) + k - c' by omega] at h3
  unfold expl at h3
  rw [hlen, Bool.and_eq_true] at h3
  have hsame : slipF c' ((u : Int) + k - c') a n = slipF k u a n := by simpa [eqL] using h3.2
  refine ⟨c', ?_, by omega, h3.1, hsame, fun hlt => ?_⟩
  · unfold diag
    rw [hf, hT, TB_zero (by omega) (by omega), hW, hlen]
    simp only [List.length_replicate, decide_true, Bool.and_self, if_true]
    show (match dgF (slipF (k : Int) u a n) (u + k) 0 (dgN (u + k)) with | some c => _ | none => _) = _
    rw [h1, hel]
    show ((c' : Int), ((u + k : Nat) : Int) - (c' : Int), a, true) = _
    rw [show ((u + k : Nat) : Int) - (c' : Int) = (u : Int) + k - c' by omega]
  · have hok2 : slipOk c' ((u : Int) + k - c') a n = true := by
      unfold slipOk; rw [h3.1, inB_yes hn0 hn1]; rfl
    have e1 := slipF_el (j := u + k + 1) hok (by omega)
    have e2 := slipF_el (j := u + k + 1) hok2 (by omega)
    rw [hsame, e1] at e2
    rw [show ((u + k + 1 : Nat) : Int) = (u : Int) + k + 1 by omega] at e2
    have e3 : effF ((k : Int).toNat) u a ((u : Int) + k + 1) = a * ((k : Int) + 1) := eff_next (by omega)
    have e4 : effF ((c' : Int).toNat) ((u : Int) + k - c') a ((u : Int) + k + 1) = a * ((c' : Int) + 1) := by
      have := eff_next (c := c') (t := (u : Int) + k - c') (a := a) (by omega)
      rw [show (u : Int) + k - c' + c' + 1 = (u : Int) + k + 1 by omega] at this
      exact this
    rw [e3, e4] at e2
    have e5 : a * (((k : Int) + 1) - ((c' : Int) + 1)) = 0 := by rw [Int.mul_sub, e2, Int.sub_self]
    rcases Int.mul_eq_zero.1 e5 with e6 | e6
    · exact absurd e6 ha
    · omega
end Go.Proofs.YtlinkeemccnfmaaGreatDoor
