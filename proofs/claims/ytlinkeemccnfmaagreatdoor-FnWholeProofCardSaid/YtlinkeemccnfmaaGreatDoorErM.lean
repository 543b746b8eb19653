/- What is proved here: those statements of ErM that this claim needs. -/
import Derived.Test.YtlinkeemccnfmaaGreatDoorPeM
import Derived.Test.YtlinkeemccnfmaaGreatDoorEof
set_option linter.unusedVariables false
set_option linter.unusedSimpArgs false
namespace Go.Proofs.YtlinkeemccnfmaaGreatDoor
open Go.RowKit
theorem dd_len {m : Nat} (h : m ≤ 1000000000) : (Lib.decDigits m).length ≤ 10 := by
  rw [Lib.decDigits_length]
  rcases Nat.lt_or_ge 10 (Lib.nDigits m) with h2 | h2
  · exfalso
    have key : ∀ k u, Lib.nDigits u = k + 1 → 1 ≤ k → 10 ^ k ≤ u := by
      intro k
      induction k with
      | zero => intro u _ h; omega
      | succ k ih =>
        intro u hu _
        by_cases hs : u < 10
        · rw [Lib.nDigits_small hs] at hu; omega
        · rw [Lib.nDigits_big hs] at hu
          by_cases hk : 1 ≤ k
          · have := ih (u / 10) (by omega) hk
            rw [Nat.pow_succ]; omega
          · have : k = 0 := by omega
            subst this; omega
    obtain ⟨k, hk⟩ : ∃ k, Lib.nDigits m = k + 1 := ⟨Lib.nDigits m - 1, by omega⟩
    have h3 := key k m hk (by omega)
    have h4 : 10 ^ 10 ≤ 10 ^ k := Nat.pow_le_pow_right (by omega) (by omega)
    omega
  · exact h2
theorem pN_itoa {n : Int} (h0 : -1000000000 ≤ n) (h1 : n ≤ 1000000000) : pN (Lib.itoa n) = some n := by
  have hl := dd_len (m := n.natAbs) (by omega)
  by_cases hn : n < 0
  · have e : Lib.itoa n = 45 :: Lib.decDigits n.natAbs := by rw [Lib.itoa, if_pos hn]
    rw [e]
    have h := pN_num (l := 45 :: Lib.decDigits n.natAbs) (m := n.natAbs) (by rw [unS_neg]; omega) (by rw [unS_neg]; exact dd_ne _) (by rw [unS_neg]; exact dd_from _) (fun h => by
      rw [unS_neg] at h
      have := dd_head _ h
      omega)
    rw [h, if_pos (by rfl)]
    congr 1; omega
  · have e : Lib.itoa n = Lib.decDigits n.natAbs := by rw [Lib.itoa, if_neg hn, show n.toNat = n.natAbs by omega]
    have hh : (Lib.decDigits n.natAbs).head? ≠ some 45 := by
      intro h2
      have := dd_bytes n.natAbs 45 (List.mem_of_mem_head? h2)
      have e45 : (45 : UInt8).toNat = 45 := rfl
      omega
    rw [e]
    have h := pN_num (l := Lib.decDigits n.natAbs) (m := n.natAbs) (by rw [unS_pos hh]; omega) (by rw [unS_pos hh]; exact dd_ne _) (by rw [unS_pos hh]; exact dd_from _) (fun h => by
      rw [unS_pos hh] at h ⊢
      have := dd_head _ h
      rw [this, dd_small (by omega)]
      exact ⟨rfl, by decide⟩)
    rw [h, if_neg hh]
    congr 1; omega
theorem ix_front {p : List UInt8} {c : UInt8} {q : List UInt8} (h : ∀ x ∈ p, x ≠ c) : Lib.indexByte (p ++ c :: q) c = p.length := by
  refine ix_iff (by simp) fun k hk => ?_
  rw [List.getElem?_append_left hk, List.getElem?_eq_getElem hk]
  intro e
  exact h _ (List.getElem_mem hk) (Option.some.inj e)
theorem cut_front {p : List UInt8} {c : UInt8} {q : List UInt8} (h : ∀ x ∈ p, x ≠ c) : Lib.cut (p ++ c :: q) [c] = (p, q, true) := by
  rw [cut_at (ix_front h), List.take_left, List.drop_append, List.drop_of_length_le (Nat.le_succ _), show p.length + 1 - p.length = 1 by omega]
  rfl
theorem itoa_ne (n : Int) {c : UInt8} (hc : c = 58 ∨ c = 59 ∨ c = 62) : ∀ x ∈ Lib.itoa n, x ≠ c := by
  intro x hx e
  have h := itoa_bytes n x hx
  subst e
  rcases hc with rfl | rfl | rfl
  · rcases h with h | ⟨h, h2⟩
    · exact absurd h (by decide)
    · exact absurd h2 (by decide)
  · rcases h with h | ⟨h, h2⟩
    · exact absurd h (by decide)
    · exact absurd h2 (by decide)
  · rcases h with h | ⟨h, h2⟩
    · exact absurd h (by decide)
    · exact absurd h2 (by decide)
theorem pE_text2 {a b c : Int} (ha : -1000000000 ≤ a ∧ a ≤ 1000000000) (hb : -1000000000 ≤ b ∧ b ≤ 1000000000) (hc : -1000000000 ≤ c ∧ c ≤ 1000000000) :
    pE (Lib.itoa a ++ 58 :: (Lib.itoa b ++ 62 :: Lib.itoa c)) = some (a, b, c) := by
  unfold pE
  rw [cut_front (itoa_ne a (.inl rfl)), cut_front (itoa_ne b (.inr (.inr rfl))), pN_itoa ha.1 ha.2, pN_itoa hb.1 hb.2, pN_itoa hc.1 hc.2]
  rfl
theorem eB_no59 (zs : List Int) (i : Nat) : ∀ x ∈ (eB zs i).data.toList, x ≠ 59 := by
  intro x hx
  rw [eB_data] at hx
  simp only [List.mem_append, List.mem_cons] at hx
  rcases hx with h | rfl | h | rfl | h
  · exact itoa_ne _ (.inr (.inl rfl)) x h
  · decide
  · exact itoa_ne _ (.inr (.inl rfl)) x h
  · decide
  · exact itoa_ne _ (.inr (.inl rfl)) x h
theorem pL_of {q : List ByteArray} {L : List Int} (hl : L.length = q.length * 3) (h : ∀ i (hi : i < q.length), pE (q[i]).data.toList = some (el L (i * 3), el L (i * 3 + 1), el L (i * 3 + 2))) : pL q = some L := by
  induction q generalizing L with
  | nil => simp at hl; rw [hl]; rfl
  | cons s q ih =>
    obtain ⟨a, L1, rfl⟩ : ∃ a L1, L = a :: L1 := by cases L with | nil => simp at hl | cons a t => exact ⟨a, t, rfl⟩
    obtain ⟨b, L2, rfl⟩ : ∃ a L', L1 = a :: L' := by cases L1 with | nil => simp at hl; omega | cons a t => exact ⟨a, t, rfl⟩
    obtain ⟨c, M, rfl⟩ : ∃ a L', L2 = a :: L' := by cases L2 with | nil => simp at hl; omega | cons a t => exact ⟨a, t, rfl⟩
    have h0 := h 0 (by simp)
    have hM := ih (L := M) (by simp at hl ⊢; omega) (fun i hi => by
      have h2 := h (i + 1) (by simpa using hi)
      rw [show (i + 1) * 3 = i * 3 + 1 + 1 + 1 by omega] at h2
      exact h2)
    have h0' : pE s.data.toList = some (a, b, c) := h0
    rw [pL, h0', hM]
theorem cB_fB {zs : List Int} {n : Nat} (h : n ≠ 0) : cB (fB zs n) = eBs zs n := by
  apply data_inj
  rw [cB_data, ← eBs_join zs n h]
  refine cuts_join _ (by intro e; have := congrArg List.length e; rw [List.length_map, eBs_len, List.length_nil] at this; exact h this) fun x hx => ?_
  obtain ⟨s, hs, rfl⟩ := List.mem_map.1 hx
  obtain ⟨i, _, rfl⟩ := List.mem_map.1 hs
  exact eB_no59 zs i
theorem eB_size5 {zs : List Int} (i : Nat) : 2 ≤ (eB zs i).size := by
  have e58 : (⟨#[58]⟩ : ByteArray).size = 1 := rfl
  have e62 : (⟨#[62]⟩ : ByteArray).size = 1 := rfl
  simp only [eB, ByteArray.size_append, e58, e62]
  omega
theorem fB_size5 {zs : List Int} : ∀ {n : Nat}, n ≠ 0 → 2 ≤ (fB zs n).size
  | 0, h => absurd rfl h
  | k + 1, _ => by
    have := eB_size5 (zs := zs) k
    rw [fB, ByteArray.size_append]; omega
theorem EP_FT {zs : List Int} {n : Nat} (hl : zs.length = n * 3) (h : EV zs = true) : EP (FT zs) = some zs := by
  by_cases hn : n = 0
  · have h0 : zs.length = 0 := by omega
    rw [FT_none h0, EP_dash, List.length_eq_zero_iff.1 h0]
  · rw [FT_yes hl h hn]
    refine EP_yes (fun e => ?_) (pL_of (by rw [cB_fB hn, eBs_len]; exact hl) fun i hi => ?_) h
    · have := fB_size5 (zs := zs) hn
      rw [e] at this
      exact absurd this (by decide)
    · have hi2 : i < n := by rw [cB_fB hn, eBs_len] at hi; exact hi
      have e : (cB (fB zs n))[i] = eB zs i := by
        have h1 := eBs_at zs n i hi2
        rw [← cB_fB hn, List.getElem?_eq_getElem hi] at h1
        exact Option.some.inj h1
      rw [e, eB_data]
      have hv := h
      unfold EV at hv
      rw [hl, Nat.mul_div_cancel _ (by omega)] at hv
      have h2 := e1B_iff.1 (evB_at hv hi2)
      exact pE_text2 (by omega) h2.2.2.1 h2.2.2.2.1
theorem FT_size {zs : List Int} {n : Nat} (hl : zs.length = n * 3) (h : EV zs = true) (hr : R64 zs) (hn : n ≤ 60) : 0 < (FT zs).size ∧ (FT zs).size ≤ 4000 := by
  by_cases h0 : n = 0
  · have e : zs.length = 0 := by omega
    rw [FT_none e]; decide
  · rw [FT_yes hl h h0]
    have := fB_size hr n
    omega
theorem evB_app {L M : List Int} {n : Nat} (hl : n * 3 ≤ L.length) : ∀ k, k ≤ n → evB (L ++ M) k = evB L k
  | 0, _ => rfl
  | k + 1, hk => by
    have e : ∀ j, j < n * 3 → el (L ++ M) j = el L j := fun j hj => el_append_left (by omega)
    rw [evB, evB, evB_app hl k (by omega)]
    congr 1
    unfold e1B
    rw [e (k * 3) (by omega), e (k * 3 + 1) (by omega), e (k * 3 + 2) (by omega), e (k * 3 - 3) (by omega)]
theorem erT_ev {xs ys : List Int} (hx : ∀ k, k < xs.length → -1000000000 ≤ el xs k ∧ el xs k ≤ 1000000000) (hy : ∀ k, k < ys.length → -1000000000 ≤ el ys k ∧ el ys k ≤ 1000000000) (hxy : xs.length = ys.length) (h60 : xs.length ≤ 60) :
    ∀ j, j ≤ xs.length → evB (erT xs ys j) (erN xs ys j) = true ∧ (∀ i, i < erN xs ys j → el (erT xs ys j) (i * 3) < j)
  | 0, _ => ⟨rfl, fun i hi => by simp [erN] at hi⟩
  | j + 1, hj => by
    obtain ⟨h1, h2⟩ := erT_ev hx hy hxy h60 j (by omega)
    by_cases he : el xs j = el ys j
    · rw [erT_same he, erN_same he]
      exact ⟨h1, fun i hi => by have := h2 i hi; omega⟩
    · rw [erT_new he, erN_new he]
      have hl := erT_len xs ys j
      obtain ⟨N, hN⟩ : ∃ N, erN xs ys j = N := ⟨_, rfl⟩
      obtain ⟨T, hT⟩ : ∃ T, erT xs ys j = T := ⟨_, rfl⟩
      rw [hN] at h1 h2 hl
      rw [hT] at h1 h2 hl
      rw [hN, hT]
      have a0 : el (T ++ [(j : Int), el ys j, el xs j]) (N * 3) = j := by rw [el_append_right (by omega), hl, Nat.sub_self]; rfl
      have a1 : el (T ++ [(j : Int), el ys j, el xs j]) (N * 3 + 1) = el ys j := by rw [el_append_right (by omega), hl, show N * 3 + 1 - N * 3 = 1 by omega]; rfl
      have a2 : el (T ++ [(j : Int), el ys j, el xs j]) (N * 3 + 2) = el xs j := by rw [el_append_right (by omega), hl, show N * 3 + 2 - N * 3 = 2 by omega]; rfl
      have bx := hx j (by omega)
      have by' := hy j (by omega)
      refine ⟨?_, fun i hi => ?_⟩
      · rw [evB, evB_app (by omega) N (Nat.le_refl _), h1, Bool.true_and]
        refine e1B_iff.2 ⟨by rw [a0]; omega, ?_, by rw [a1]; exact by', by rw [a2]; exact bx, by rw [a1, a2]; exact fun e => he e.symm⟩
        by_cases h0 : N = 0
        · exact .inl h0
        · refine .inr ?_
          rw [a0, el_append_left (by omega), show N * 3 - 3 = (N - 1) * 3 by omega]
          exact h2 (N - 1) (by omega)
      · by_cases e : i = N
        · subst e; rw [a0]; omega
        · rw [el_append_left (by omega)]
          have := h2 i (by omega)
          omega
theorem erF_ev (xs ys : List Int) : EV (erF xs ys) = true := by
  cases h : alike2 xs ys with
  | false => rw [erF_no h]; rfl
  | true =>
    obtain ⟨h1, h2, h3⟩ := al_len h
    have t1 := TB_iff.1 h1
    have t2 := TB_iff.1 h2
    rw [erF_yes h]
    unfold EV
    rw [erT_len, Nat.mul_div_cancel _ (by omega)]
    exact (erT_ev t1.2.2 t2.2.2 h3 t1.2.1 _ (Nat.le_refl _)).1
end Go.Proofs.YtlinkeemccnfmaaGreatDoor
