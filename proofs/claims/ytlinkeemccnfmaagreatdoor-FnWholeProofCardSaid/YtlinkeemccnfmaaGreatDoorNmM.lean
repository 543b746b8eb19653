/- What is proved here: those statements of NmM that this claim needs. -/
import Derived.Lib.Atoi
import Derived.Test.YtlinkeemccnfmaaGreatDoorFmt2
set_option linter.unusedVariables false
set_option linter.unusedSimpArgs false
namespace Go.Proofs.YtlinkeemccnfmaaGreatDoor
open Go.RowKit
theorem dd_small {m : Nat} (h : m < 10) : Lib.decDigits m = [UInt8.ofNat (48 + m)] := Lib.decDigits_one h
theorem dd_big {m : Nat} (h : ¬ m < 10) : Lib.decDigits m = Lib.decDigits (m / 10) ++ [UInt8.ofNat (48 + m % 10)] := by rw [Lib.decDigits, dif_neg h]
theorem dd_ne (m : Nat) : Lib.decDigits m ≠ [] := by
  intro h
  have := Lib.decDigits_length m
  rw [h] at this
  have := Lib.nDigits_pos m
  simp at *; omega
theorem dd_head : ∀ (m : Nat), (Lib.decDigits m).head? = some 48 → m = 0 := by
  intro m
  induction m using Nat.strongRecOn with
  | _ m ih =>
    by_cases h : m < 10
    · rw [dd_small h]
      intro e
      simp only [List.head?_cons, Option.some.injEq] at e
      have := congrArg UInt8.toNat e
      rw [UInt8.toNat_ofNat'] at this
      have e48 : (48 : UInt8).toNat = 48 := rfl
      omega
    · rw [dd_big h, List.head?_append]
      intro e
      cases hd : (Lib.decDigits (m / 10)).head? with
      | none => exact absurd (List.head?_eq_none_iff.1 hd) (dd_ne _)
      | some x =>
        rw [hd] at e
        simp only [Option.some_or, Option.some.injEq] at e
        subst e
        have := ih (m / 10) (by omega) hd
        omega
theorem df_snoc : ∀ (l : List UInt8) (acc : Nat) (b : UInt8), Lib.decFrom acc (l ++ [b]) = (Lib.decFrom acc l).bind fun a => (Lib.digitVal b).map fun d => a * 10 + d
  | [], acc, b => by
    rw [List.nil_append, Lib.decFrom, Lib.decFrom]
    cases Lib.digitVal b <;> rfl
  | x :: l, acc, b => by
    rw [List.cons_append, Lib.decFrom, Lib.decFrom]
    cases Lib.digitVal x with
    | none => rfl
    | some d => exact df_snoc l _ b
theorem dv_byte {b : UInt8} {d : Nat} (h : Lib.digitVal b = some d) : b = UInt8.ofNat (48 + d) ∧ d < 10 := by
  obtain ⟨h1, h2, h3⟩ := Lib.digitVal_eq h
  refine ⟨?_, by omega⟩
  apply UInt8.toNat_inj.1
  rw [UInt8.toNat_ofNat']
  omega
theorem dec_canon : ∀ (n : Nat) (r : List UInt8) (m : Nat), r.length = n → r ≠ [] → Lib.decFrom 0 r = some m → (r.length = 1 ∨ r.head? ≠ some 48) → Lib.decDigits m = r := by
  intro n
  induction n with
  | zero => intro r m hl hne _ _; exact absurd (List.length_eq_zero_iff.1 hl) hne
  | succ n ih =>
    intro r m hl hne hd hh
    obtain ⟨q, b, rfl⟩ : ∃ q b, r = q ++ [b] := ⟨r.dropLast, r.getLast hne, (List.dropLast_concat_getLast hne).symm⟩
    rw [df_snoc] at hd
    cases hq : Lib.decFrom 0 q with
    | none => rw [hq] at hd; cases hd
    | some a =>
      rw [hq] at hd
      cases hv : Lib.digitVal b with
      | none => rw [hv] at hd; cases hd
      | some d =>
        rw [hv] at hd
        simp only [Option.bind_some, Option.map_some, Option.some.injEq] at hd
        obtain ⟨hb, hd10⟩ := dv_byte hv
        by_cases h0 : q = []
        · subst h0
          simp [Lib.decFrom] at hq
          subst hq
          rw [← hd, Nat.zero_mul, Nat.zero_add, dd_small hd10, hb]; rfl
        · have hlq : q.length = n := by simp at hl; omega
          have hq0 : 1 ≤ q.length := by
            cases q with
            | nil => exact absurd rfl h0
            | cons x t => simp
          have hhq : q.head? ≠ some 48 := by
            rcases hh with hh | hh
            · simp at hh; exact absurd hh h0
            · intro e2
              apply hh
              rw [List.head?_append, e2]; rfl
          have e := ih q a hlq h0 hq (.inr hhq)
          have ha : a ≠ 0 := by
            rintro rfl
            rw [dd_small (by omega)] at e
            rw [← e] at hhq
            exact hhq rfl
          have hm : m / 10 = a := by omega
          have hm2 : m % 10 = d := by omega
          rw [dd_big (by omega), hm, hm2, e, hb]
theorem dd_from (m : Nat) : Lib.decFrom 0 (Lib.decDigits m) = some m := by
  induction m using Nat.strongRecOn with
  | _ m ih =>
    have hv : ∀ d, d < 10 → Lib.digitVal (UInt8.ofNat (48 + d)) = some d := fun d hd => by
      have e : (UInt8.ofNat (48 + d)).toNat = 48 + d := by rw [UInt8.toNat_ofNat']; omega
      rw [Lib.digitVal, e, if_pos (by omega)]
      congr 1; omega
    by_cases h : m < 10
    · rw [dd_small h]; simp only [Lib.decFrom, hv m h, Nat.zero_mul, Nat.zero_add]
    · rw [dd_big h, df_snoc, ih (m / 10) (by omega), hv (m % 10) (by omega)]
      simp only [Option.bind_some, Option.map_some, Option.some.injEq]
      omega
theorem dd_bytes (m : Nat) : ∀ x ∈ Lib.decDigits m, 48 ≤ x.toNat ∧ x.toNat ≤ 57 := by
  intro x hx
  obtain ⟨k, hk, e⟩ := List.getElem_of_mem hx
  obtain ⟨d, hd⟩ := Lib.digit_of_decFrom _ 0 m (dd_from m) k x (by rw [List.getElem?_eq_getElem hk, e])
  obtain ⟨h1, h2, _⟩ := Lib.digitVal_eq hd
  exact ⟨h1, h2⟩
theorem itoa_bytes (n : Int) : ∀ x ∈ Lib.itoa n, x = 45 ∨ (48 ≤ x.toNat ∧ x.toNat ≤ 57) := by
  intro x hx
  rw [Lib.itoa] at hx
  split at hx
  · rcases List.mem_cons.1 hx with h | h
    · exact .inl h
    · exact .inr (dd_bytes _ x h)
  · exact .inr (dd_bytes _ x hx)
def unS (l : List UInt8) : List UInt8 := if l.head? = some 45 then l.drop 1 else l
def pN (l : List UInt8) : Option Int := if 17 < (unS l).length then none else match Lib.atoi l with | none => none | some n => if Lib.itoa n = l then some n else none
theorem pN_text {l : List UInt8} {n : Int} (h : pN l = some n) : Lib.itoa n = l := by
  unfold pN at h
  split at h
  · cases h
  · cases ha : Lib.atoi l with
    | none => rw [ha] at h; cases h
    | some k =>
      rw [ha] at h
      simp only at h
      split at h
      · rename_i e; cases h; exact e
      · cases h
theorem pN_long {l : List UInt8} (h : 17 < (unS l).length) : pN l = none := if_pos h
theorem pN_none {l : List UInt8} (h : Lib.atoi l = none) : pN l = none := by
  unfold pN; split
  · rfl
  · rw [h]
theorem pN_other {l : List UInt8} {n : Int} (h : Lib.atoi l = some n) (h2 : Lib.itoa n ≠ l) : pN l = none := by
  unfold pN; split
  · rfl
  · rw [h]; simp only [if_neg h2]
theorem pN_yes {l : List UInt8} {n : Int} (hl : ¬ 17 < (unS l).length) (h : Lib.atoi l = some n) (h2 : Lib.itoa n = l) : pN l = some n := by
  unfold pN; rw [if_neg hl, h]; simp only [if_pos h2]
theorem unS_neg (r : List UInt8) : unS (45 :: r) = r := by simp [unS]
theorem unS_pos {l : List UInt8} (h : l.head? ≠ some 45) : unS l = l := if_neg h
theorem atoi_neg (r : List UInt8) : Lib.atoi (45 :: r) = (Lib.decNat r).map fun (m : Nat) => -(m : Int) := by rw [Lib.atoi]; simp
theorem decNat_ne {r : List UInt8} {m : Nat} (h : r ≠ []) (hd : Lib.decFrom 0 r = some m) : Lib.decNat r = some m := by
  unfold Lib.decNat
  cases r with
  | nil => exact absurd rfl h
  | cons x t => simpa using hd
theorem pN_nil : pN [] = none := pN_none rfl
theorem pN_num {l : List UInt8} {m : Nat} (hl : ¬ 17 < (unS l).length) (hne : unS l ≠ []) (hd : Lib.decFrom 0 (unS l) = some m) (h : (unS l).head? = some 48 → (unS l).length = 1 ∧ l.head? ≠ some 45) :
    pN l = some (if l.head? = some 45 then -(m : Int) else m) := by
  have hc : Lib.decDigits m = unS l := dec_canon _ _ m rfl hne hd (by
    by_cases e : (unS l).head? = some 48
    · exact .inl (h e).1
    · exact .inr e)
  by_cases hs : l.head? = some 45
  · obtain ⟨r, rfl⟩ : ∃ r, l = 45 :: r := by
      cases l with
      | nil => simp at hs
      | cons x t => simp at hs; subst hs; exact ⟨t, rfl⟩
    rw [if_pos hs]
    rw [unS_neg] at hl hne hd hc h
    have hm : m ≠ 0 := by
      rintro rfl
      rw [dd_small (by omega)] at hc
      exact (h (by rw [← hc]; rfl)).2 hs
    refine pN_yes (by rwa [unS_neg]) (by rw [atoi_neg, decNat_ne hne hd]; rfl) ?_
    rw [Lib.itoa, if_pos (by omega)]
    have : (-(m : Int)).natAbs = m := by omega
    rw [this, hc]
  · rw [if_neg hs]
    rw [unS_pos hs] at hl hne hd hc h
    have hb : l.head? ≠ some 43 := by
      intro h2
      obtain ⟨d, hd2⟩ := Lib.digit_of_decFrom l 0 m hd 0 43 (by rw [List.head?_eq_getElem?] at h2; exact h2)
      simp [Lib.digitVal] at hd2
    refine pN_yes (by rwa [unS_pos hs]) ?_ ?_
    · cases l with
      | nil => exact absurd rfl hne
      | cons x t =>
        have h1 : (x == 45) = false := by simpa using hs
        have h2 : (x == 43) = false := by simpa using hb
        rw [Lib.atoi]
        simp only [h1, h2]
        rw [decNat_ne hne hd]
        rfl
    · rw [Lib.itoa, if_neg (by omega)]
      exact hc
theorem pN_bd {l : List UInt8} {n : Int} (h : pN l = some n) : -100000000000000000 < n ∧ n < 100000000000000000 := by
  have e := pN_text h
  have hl : ¬ 17 < (unS l).length := by
    intro h2; rw [pN_long h2] at h; cases h
  have key : ∀ m : Nat, (Lib.decDigits m).length ≤ 17 → m < 100000000000000000 := fun m hm => by
    have h1 := dd_from m
    exact Lib.decFrom_take_lt (l := Lib.decDigits m) (k := (Lib.decDigits m).length) (by rw [List.take_length]; exact h1) hm
  rw [Lib.itoa] at e
  split at e
  · rw [← e, unS_neg] at hl
    have := key n.natAbs (by omega)
    omega
  · have hh : l.head? ≠ some 45 := by
      rw [← e]
      intro h2
      have := dd_bytes n.toNat 45 (List.mem_of_mem_head? h2)
      have e45 : (45 : UInt8).toNat = 45 := rfl
      omega
    rw [unS_pos hh, ← e] at hl
    have := key n.toNat (by omega)
    omega
theorem dec_lt18 {r : List UInt8} {m : Nat} (hl : r.length ≤ 18) (h : Lib.decNat r = some m) : m < 1000000000000000000 := Lib.decFrom_lt18 (Lib.decNat_some h).2 hl
theorem atoi_rg {l : List UInt8} {n : Int} (hl : l.length ≤ 18) (h : Lib.atoi l = some n) : -9223372036854775808 ≤ n ∧ n ≤ 9223372036854775807 := by
  cases l with
  | nil => simp [Lib.atoi] at h
  | cons x t =>
    simp only [List.length_cons] at hl
    rw [Lib.atoi] at h
    split at h
    · cases hd : Lib.decNat t with
      | none => rw [hd] at h; cases h
      | some m =>
        rw [hd] at h
        simp only [Option.map_some, Option.some.injEq] at h
        have := dec_lt18 (by omega) hd
        omega
    · split at h
      · cases hd : Lib.decNat t with
        | none => rw [hd] at h; cases h
        | some m =>
          rw [hd] at h
          simp only [Option.map_some, Option.some.injEq] at h
          have := dec_lt18 (by omega) hd
          omega
      · cases hd : Lib.decNat (x :: t) with
        | none => rw [hd] at h; cases h
        | some m =>
          rw [hd] at h
          simp only [Option.map_some, Option.some.injEq] at h
          have := dec_lt18 (by simp only [List.length_cons]; omega) hd
          omega
end Go.Proofs.YtlinkeemccnfmaaGreatDoor
