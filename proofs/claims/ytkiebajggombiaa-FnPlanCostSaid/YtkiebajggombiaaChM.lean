/- What is proved here: plain facts on cheapest plans. No program in sight. -/
import Derived.Test.YtkiebajggombiaaGrM
set_option linter.unusedVariables false
set_option linter.unusedSimpArgs false
namespace Go.Proofs.Ytkiebajggombiaa
open Go.RowKit

/-- What a table costs if its first n entries are the first segment. -/
def chC (ys : List Int) (d s c : Int) (n : Nat) : Int := ctW ys d s c n + ctH (ys.drop n) d s c
/-- The longest first segment of a cheapest plan, counted down from n. -/
def chD (ys : List Int) (d s c : Int) : Nat → Nat
  | 0 => 0
  | n + 1 => if rnOk (ys.take (n + 1)) d && decide (chC ys d s c (n + 1) = ctH ys d s c) then n + 1 else chD ys d s c n
theorem chD_yes {ys : List Int} {d s c : Int} {n : Nat} (h : rnOk (ys.take (n + 1)) d = true) (h2 : chC ys d s c (n + 1) = ctH ys d s c) : chD ys d s c (n + 1) = n + 1 := by
  rw [chD, if_pos (by simp [h, h2])]
theorem chD_no {ys : List Int} {d s c : Int} {n : Nat} (h : rnOk (ys.take (n + 1)) d = false ∨ chC ys d s c (n + 1) ≠ ctH ys d s c) : chD ys d s c (n + 1) = chD ys d s c n := by
  rw [chD, if_neg (by rcases h with h | h <;> simp [h])]
theorem chD_spec {ys : List Int} {d s c : Int} : ∀ n, chD ys d s c n ≤ n ∧ (1 ≤ chD ys d s c n → rnOk (ys.take (chD ys d s c n)) d = true ∧ chC ys d s c (chD ys d s c n) = ctH ys d s c) ∧
    ∀ j, chD ys d s c n < j → j ≤ n → rnOk (ys.take j) d = true → chC ys d s c j ≠ ctH ys d s c := by
  intro n
  induction n with
  | zero => exact ⟨Nat.le_refl _, fun h => by simp [chD] at h, fun j a b => by omega⟩
  | succ n ih =>
    obtain ⟨i1, i2, i3⟩ := ih
    by_cases e : rnOk (ys.take (n + 1)) d = true ∧ chC ys d s c (n + 1) = ctH ys d s c
    · rw [chD_yes e.1 e.2]; exact ⟨Nat.le_refl _, fun _ => e, fun j a b => by omega⟩
    · have e' : rnOk (ys.take (n + 1)) d = false ∨ chC ys d s c (n + 1) ≠ ctH ys d s c := by
        by_cases h : rnOk (ys.take (n + 1)) d = true
        · exact .inr (fun h2 => e ⟨h, h2⟩)
        · exact .inl (by simpa using h)
      rw [chD_no e']
      refine ⟨by omega, i2, fun j a b hr => ?_⟩
      by_cases e2 : j = n + 1
      · subst e2
        rcases e' with h | h
        · rw [hr] at h; cases h
        · exact h
      · exact i3 j a (by omega) hr
def chN (ys : List Int) (d s c : Int) : Nat := chD ys d s c ys.length
theorem chN_spec {ys : List Int} (hS : SM ys = true) {d : Nat} (hd : d ≤ 6) {s c : Int} (hs : 0 ≤ s ∧ s ≤ 1000) (hc : 0 ≤ c ∧ c ≤ 1000) :
    1 ≤ chN ys d s c ∧ chN ys d s c ≤ ys.length ∧ rnOk (ys.take (chN ys d s c)) d = true ∧ chC ys d s c (chN ys d s c) = ctH ys d s c ∧ ∀ j, chN ys d s c < j → j ≤ ys.length → rnOk (ys.take j) d = true → chC ys d s c j ≠ ctH ys d s c := by
  obtain ⟨h1, h2, h3⟩ := chD_spec (ys := ys) (d := d) (s := s) (c := c) ys.length
  obtain ⟨n, n1, n2, n3, n4⟩ := ctH_eq hS hd hs hc
  have hp : 1 ≤ chD ys d s c ys.length := by
    rcases Nat.lt_or_ge (chD ys d s c ys.length) 1 with h | h
    · exact absurd n4.symm (h3 n (by omega) n2 n3)
    · exact h
  exact ⟨hp, h1, (h2 hp).1, (h2 hp).2, h3⟩
/-- Counting down from the longest run finds it too. -/
theorem chD_from {ys : List Int} (hS : SM ys = true) {d : Nat} (hd : d ≤ 6) {s c : Int} : chN ys d s c = chD ys d s c (lgN ys d) := by
  obtain ⟨l1, l2, l3, l4⟩ := lgN_spec hS hd
  have key : ∀ k, lgN ys d + k ≤ ys.length → chD ys d s c (lgN ys d + k) = chD ys d s c (lgN ys d) := by
    intro k
    induction k with
    | zero => intro _; rfl
    | succ k ih =>
      intro h
      rw [← Nat.add_assoc, chD_no (.inl (l4 _ (by omega) (by omega))), ih (by omega)]
  have := key (ys.length - lgN ys d) (by omega)
  rw [show lgN ys d + (ys.length - lgN ys d) = ys.length by omega] at this
  exact this
/-- What the scan from the longest count down has found. -/
def ChI (ys : List Int) (d s c : Int) (k b : Nat) (l : Int) : Prop :=
  (b = 0 ∧ ∀ j, k < j → j ≤ ys.length → rnOk (ys.take j) d = false) ∨
  (k < b ∧ b ≤ ys.length ∧ rnOk (ys.take b) d = true ∧ l = chC ys d s c b ∧ ∀ j, k < j → j ≤ ys.length → rnOk (ys.take j) d = true → l ≤ chC ys d s c j ∧ (b < j → l < chC ys d s c j))
theorem ChI.start (ys : List Int) (d s c l : Int) : ChI ys d s c ys.length 0 l := .inl ⟨rfl, fun j a b => by omega⟩
theorem ChI.skip {ys : List Int} {d s c l : Int} {k b : Nat} (h : ChI ys d s c (k + 1) b l) (hr : rnOk (ys.take (k + 1)) d = false) : ChI ys d s c k b l := by
  rcases h with ⟨h1, h2⟩ | ⟨h1, h2, h3, h4, h5⟩
  · refine .inl ⟨h1, fun j a e => ?_⟩
    by_cases hj : j = k + 1
    · subst hj; exact hr
    · exact h2 j (by omega) e
  · refine .inr ⟨by omega, h2, h3, h4, fun j a e hrj => ?_⟩
    by_cases hj : j = k + 1
    · subst hj; rw [hr] at hrj; cases hrj
    · exact h5 j (by omega) e hrj
/-- The new count is taken. -/
theorem ChI.take {ys : List Int} {d s c l x : Int} {k b : Nat} (h : ChI ys d s c (k + 1) b l) (hk : k + 1 ≤ ys.length) (hr : rnOk (ys.take (k + 1)) d = true) (hx : x = chC ys d s c (k + 1)) (ht : b = 0 ∨ x < l) : ChI ys d s c k (k + 1) x := by
  refine .inr ⟨by omega, hk, hr, hx, fun j a e hrj => ?_⟩
  by_cases hj : j = k + 1
  · subst hj; exact ⟨by omega, fun h => by omega⟩
  · rcases h with ⟨h1, h2⟩ | ⟨h1, h2, h3, h4, h5⟩
    · have := h2 j (by omega) e; rw [hrj] at this; cases this
    · have := h5 j (by omega) e hrj
      rcases ht with ht | ht
      · omega
      · exact ⟨by omega, fun _ => by omega⟩
/-- The new count is left. -/
theorem ChI.leave {ys : List Int} {d s c l x : Int} {k b : Nat} (h : ChI ys d s c (k + 1) b l) (hx : x = chC ys d s c (k + 1)) (ht : b ≠ 0 ∧ l ≤ x) : ChI ys d s c k b l := by
  rcases h with ⟨h1, h2⟩ | ⟨h1, h2, h3, h4, h5⟩
  · exact absurd h1 ht.1
  · refine .inr ⟨by omega, h2, h3, h4, fun j a e hrj => ?_⟩
    by_cases hj : j = k + 1
    · subst hj; exact ⟨by omega, fun h => by omega⟩
    · exact h5 j (by omega) e hrj
theorem ChI.done {ys : List Int} (hS : SM ys = true) {d : Nat} (hd : d ≤ 6) {s c l : Int} {b : Nat} (hs : 0 ≤ s ∧ s ≤ 1000) (hc : 0 ≤ c ∧ c ≤ 1000) (h : ChI ys d s c 0 b l) : b = chN ys d s c ∧ l = ctH ys d s c := by
  obtain ⟨c1, c2, c3, c4, c5⟩ := chN_spec hS hd hs hc
  rcases h with ⟨h1, h2⟩ | ⟨h1, h2, h3, h4, h5⟩
  · have := h2 _ c1 c2; rw [c3] at this; cases this
  · have h6 := h5 _ c1 c2 c3
    rw [c4] at h6
    have h7 := ctH_le hS hd (s := s) (c := c) h1 h2 h3
    have h8 : l = ctH ys d s c := by
      have : ctH ys d s c ≤ chC ys d s c b := h7
      omega
    refine ⟨?_, h8⟩
    rcases Nat.lt_trichotomy b (chN ys d s c) with e | e | e
    · have := h6.2 e; omega
    · exact e
    · exact absurd (by rw [← h4]; exact h8) (c5 b e h2 h3)
theorem chC_bd {ys : List Int} {d : Nat} (hd : d ≤ 6) (hS : SM ys = true) {s c : Int} (hs : 0 ≤ s ∧ s ≤ 1000) (hc : 0 ≤ c ∧ c ≤ 1000) (n : Nat) : 0 ≤ chC ys d s c n ∧ chC ys d s c n ≤ 500000 := by
  have h1 := ctW_bd (xs := ys) (d := d) hs hc n
  have h2 := ctH_bd (xs := ys.drop n) (d := d) hs.1 hc.1
  have hl := SM_iff.1 hS
  have h3 := ctH_ub hd hs hc (ys.drop n).length (ys.drop n) rfl (by
    by_cases e : n < ys.length
    · exact .inr (SM_drop hS e)
    · exact .inl (List.drop_eq_nil_of_le (by omega)))
  rw [List.length_drop] at h3
  unfold chC
  omega
/-- The cheapest plan. -/
def ckF (d s c : Int) : Nat → List Int → List (Int × List Int)
  | 0, _ => []
  | f + 1, ys => if ys.length = 0 then [] else (((chN ys d s c : Nat) : Int), rnL (ys.take (chN ys d s c)) d) :: ckF d s c f (ys.drop (chN ys d s c))
theorem ckF_step {d s c : Int} {f : Nat} {ys : List Int} (h : ys.length ≠ 0) : ckF d s c (f + 1) ys = (((chN ys d s c : Nat) : Int), rnL (ys.take (chN ys d s c)) d) :: ckF d s c f (ys.drop (chN ys d s c)) := by rw [ckF, if_neg h]
theorem SM_tail {ys : List Int} (hS : SM ys = true) (n : Nat) : ys.drop n = [] ∨ SM (ys.drop n) = true := by
  by_cases e : n < ys.length
  · exact .inr (SM_drop hS e)
  · exact .inl (List.drop_eq_nil_of_le (by omega))
theorem ckF_fuel {d : Nat} (hd : d ≤ 6) {s c : Int} (hs : 0 ≤ s ∧ s ≤ 1000) (hc : 0 ≤ c ∧ c ≤ 1000) : ∀ m f (ys : List Int), f ≤ m → (ys = [] ∨ SM ys = true) → ys.length ≤ f → ckF d s c f ys = ckF d s c ys.length ys := by
  intro m
  induction m with
  | zero => intro f ys h1 _ h2; rw [show f = 0 by omega, show ys.length = 0 by omega]
  | succ m ih =>
    intro f ys h1 hS h2
    cases f with
    | zero => rw [show ys.length = 0 by omega]
    | succ f =>
      by_cases h0 : ys.length = 0
      · rw [List.eq_nil_of_length_eq_zero h0]; rfl
      · obtain ⟨k, hk⟩ : ∃ k, ys.length = k + 1 := ⟨ys.length - 1, by omega⟩
        rcases hS with rfl | hS
        · exact absurd rfl h0
        · obtain ⟨l1, l2, -⟩ := chN_spec hS hd hs hc
          rw [hk, ckF_step h0, ckF_step h0]
          have e1 := ih f (ys.drop (chN ys d s c)) (by omega) (SM_tail hS _) (by rw [List.length_drop]; omega)
          have e2 := ih k (ys.drop (chN ys d s c)) (by omega) (SM_tail hS _) (by rw [List.length_drop]; omega)
          rw [e1, e2]
def ck (ys : List Int) (d s c : Int) : List (Int × List Int) := ckF d s c ys.length ys
theorem ck_nil {d s c : Int} : ck [] d s c = [] := rfl
theorem ck_cons {ys : List Int} (hS : SM ys = true) {d : Nat} (hd : d ≤ 6) {s c : Int} (hs : 0 ≤ s ∧ s ≤ 1000) (hc : 0 ≤ c ∧ c ≤ 1000) : ck ys d s c = (((chN ys d s c : Nat) : Int), rnL (ys.take (chN ys d s c)) d) :: ck (ys.drop (chN ys d s c)) d s c := by
  obtain ⟨l1, l2, -⟩ := chN_spec hS hd hs hc
  have h60 := (SM_iff.1 hS).1
  obtain ⟨k, hk⟩ : ∃ k, ys.length = k + 1 := ⟨ys.length - 1, by omega⟩
  unfold ck
  rw [hk, ckF_step (by omega), ckF_fuel hd hs hc k k _ (Nat.le_refl _) (SM_tail hS _) (by rw [List.length_drop]; omega)]
theorem ck_len {d : Nat} (hd : d ≤ 6) {s c : Int} (hs : 0 ≤ s ∧ s ≤ 1000) (hc : 0 ≤ c ∧ c ≤ 1000) : ∀ m (ys : List Int), ys.length ≤ m → (ys = [] ∨ SM ys = true) → (ck ys d s c).length ≤ ys.length := by
  intro m
  induction m with
  | zero => intro ys h _; rw [List.eq_nil_of_length_eq_zero (show ys.length = 0 by omega)]; exact Nat.le_refl _
  | succ m ih =>
    intro ys h hS
    rcases hS with rfl | hS
    · exact Nat.le_refl _
    · obtain ⟨l1, l2, -⟩ := chN_spec hS hd hs hc
      rw [ck_cons hS hd hs hc, List.length_cons]
      have := ih (ys.drop (chN ys d s c)) (by rw [List.length_drop]; omega) (SM_tail hS _)
      rw [List.length_drop] at this
      omega
theorem ckF_poly {d s c : Int} : ∀ f (ys : List Int) i, (pP (ckF d s c f ys) i).length ≤ 7 := by
  intro f
  induction f with
  | zero => intro ys i; simp [ckF, pP]
  | succ f ih =>
    intro ys i
    rw [ckF]
    split
    · simp [pP]
    · cases i with
      | zero => exact rnL_len
      | succ i => exact ih (ys.drop (chN ys d s c)) i
/-- The cheapest plan of a table, and whether there is one. -/
def ckB (xs : List Int) (d s c : Int) : Bool := SM xs && (inB d 0 6 && (inB s 0 1000 && inB c 0 1000))
def ckL (xs : List Int) (d s c : Int) : List (Int × List Int) := if ckB xs d s c then ck xs d s c else []
theorem ckL_no {xs : List Int} {d s c : Int} (h : ckB xs d s c = false) : ckL xs d s c = [] := by simp [ckL, h]
theorem ckL_yes {xs : List Int} {d s c : Int} (h : ckB xs d s c = true) : ckL xs d s c = ck xs d s c := by simp [ckL, h]
theorem ckB_iff {xs : List Int} {d s c : Int} : ckB xs d s c = true ↔ SM xs = true ∧ (0 ≤ d ∧ d ≤ 6) ∧ (0 ≤ s ∧ s ≤ 1000) ∧ 0 ≤ c ∧ c ≤ 1000 := by simp only [ckB, Bool.and_eq_true, inB_iff]
theorem ckL_facts (xs : List Int) (d s c : Int) : (ckL xs d s c).length ≤ 60 ∧ ∀ i, (pP (ckL xs d s c) i).length ≤ 7 := by
  by_cases h : ckB xs d s c = true
  · obtain ⟨hS, ⟨h0, h1⟩, hs, hc⟩ := ckB_iff.1 h
    obtain ⟨dn, rfl⟩ : ∃ n : Nat, d = n := ⟨d.toNat, by omega⟩
    rw [ckL_yes h]
    have := ck_len (d := dn) (by omega) hs hc _ xs (Nat.le_refl _) (.inr hS)
    have := (SM_iff.1 hS).2.1
    exact ⟨by omega, fun i => ckF_poly _ _ i⟩
  · rw [ckL_no (by simpa using h)]; exact ⟨by simp, fun i => by simp [pP]⟩
theorem ck_step {xs : List Int} {d f : Nat} {s c : Int} (hS : SM xs = true) (hd : d ≤ 6) (hs : 0 ≤ s ∧ s ≤ 1000) (hc : 0 ≤ c ∧ c ≤ 1000) (hf : f < xs.length) {L : List (Int × List Int)} (h : L ++ ck (xs.drop f) d s c = ck xs d s c) :
    L ++ [(((chN (xs.drop f) d s c : Nat) : Int), rnL ((xs.drop f).take (chN (xs.drop f) d s c)) d)] ++ ck (xs.drop (f + chN (xs.drop f) d s c)) d s c = ck xs d s c := by
  rw [ck_cons (SM_drop hS hf) hd hs hc, List.drop_drop] at h
  rw [List.append_assoc]; exact h
end Go.Proofs.Ytkiebajggombiaa
