/- What is proved here: contracts of PutError (impl and spec). -/
import Derived.Test.YtkiebajggombiaaSlc
set_option linter.unusedVariables false
set_option linter.unusedSimpArgs false
namespace Go.Proofs.Ytkiebajggombiaa
open Go.RowKit

/-- Whether an amount may be added to an entry. -/
def putOk (xs : List Int) (p a : Int) : Bool := TB xs && (inB p 0 ((xs.length : Int) - 1) && (inB a (-1000000000) 1000000000 && inB (el xs p.toNat + a) (-1000000000) 1000000000))
def putF (xs : List Int) (p a : Int) : List Int := if putOk xs p a then xs.set p.toNat (el xs p.toNat + a) else []
theorem putOk_iff {xs : List Int} {p a : Int} : putOk xs p a = true ↔ TB xs = true ∧ (0 ≤ p ∧ p ≤ (xs.length : Int) - 1) ∧ (-1000000000 ≤ a ∧ a ≤ 1000000000) ∧ (-1000000000 ≤ el xs p.toNat + a ∧ el xs p.toNat + a ≤ 1000000000) := by
  simp only [putOk, Bool.and_eq_true, inB_iff]
theorem putF_ok {xs : List Int} {p a : Int} (h : putOk xs p a = true) : putF xs p a = xs.set p.toNat (el xs p.toNat + a) := by simp [putF, h]
theorem putF_no {xs : List Int} {p a : Int} (h : putOk xs p a = false) : putF xs p a = [] := by simp [putF, h]
theorem putF_len {xs : List Int} {p a : Int} : (putF xs p a).length ≤ 60 := by
  by_cases h : putOk xs p a = true
  · rw [putF_ok h, List.length_set]; exact (TB_iff.1 (putOk_iff.1 h).1).2.1
  · rw [putF_no (by simpa using h)]; simp
/-- A table with one entry set is a table exactly if the new entry is one. -/
theorem TB_set {xs : List Int} {j : Nat} {x : Int} (hT : TB xs = true) (hj : j < xs.length) : TB (xs.set j x) = inB x (-1000000000) 1000000000 := by
  have hb := TB_iff.1 hT
  by_cases hx : inB x (-1000000000) 1000000000 = true
  · rw [hx, TB_iff, List.length_set]
    refine ⟨hb.1, hb.2.1, fun k hk => ?_⟩
    by_cases e : j = k
    · subst e; rw [el_set_same hj]; exact inB_iff.1 hx
    · rw [el_set_other e]; exact hb.2.2 k hk
  · have hx' : inB x (-1000000000) 1000000000 = false := by simpa using hx
    rw [hx']
    refine TB_no (alw_no (k := j) (by simpa using hj) ?_)
    rw [el_set_same hj]; exact hx'

theorem c_iPutError (w : World) (v : Value) (xs : List Int) (hv : IsI w w.heap.size v xs) (p : Int) (a : Int) :
    Calls Try.prog 33 #[v, .int .i64 p, .int .i64 a] w (RetRowB w (putF xs p a) (putOk xs p a)) := by
  have hv0 := hv
  obtain ⟨ad, cap, rfl, hm, hr, hc⟩ := hv
  unfold maxLen at hm
  clear hr
  by_cases hT : TB xs = true
  · have hlx := (TB_iff.1 hT).2.1
    have HTB := hid (TB_Bd hT)
    by_cases h1 : 0 ≤ p ∧ p < xs.length
    · obtain ⟨h1a, h1b⟩ := h1
      obtain ⟨k, rfl⟩ : ∃ k : Nat, p = k := ⟨p.toNat, by omega⟩
      have hk : k < xs.length := by omega
      obtain ⟨b, off, rfl, hb, hcell⟩ := hc k hk
      have hce := hcell k hk
      obtain ⟨x0, x1⟩ := HTB.out k hk
      clear hc hcell
      by_cases h2 : inB a (-1000000000) 1000000000 = true
      · obtain ⟨a0, a1⟩ := inB_iff.1 h2
        by_cases h3 : inB (el xs k + a) (-1000000000) 1000000000 = true
        · have hok : putOk xs k a = true := putOk_iff.2 ⟨hT, by omega, by omega, inB_iff.1 h3⟩
          have hF : putF xs k a = xs.set k (el xs k + a) := putF_ok hok
          rw [hF, hok]
          clear hF hok
          go_enter Try.func33, Try.ntmps33
          go_wp2_with (first | (go_at_call 39; refine (c_iTableValid _ xs _ _ hv0).mono ?_; rintro e w' ⟨rfl, rfl⟩) | (go_at_call 75; refine (c_within _ _ _ (by omega) (by omega)).mono ?_; rintro e w' ⟨rfl, rfl⟩))
          refine (c_CloneI _ xs _ (by omega) hv0).mono ?_
          rintro e w1 ⟨v1, rfl, hr1, hb1⟩
          obtain ⟨g, cap1, hv1, hg1, hg2, hg3, hgc, hgf⟩ := hr1.split (by omega)
          subst hv1
          have hgk := hgc k hk
          have hgf' := hgf k
          have HR1 := hid (hr1.set hk (x := el xs k + a) (by omega))
          have HB1 := hid (hb1.setCell (p := ⟨g, k, none⟩) hg1 (.int .i64 (el xs k + a)))
          clear hgc hgf hr1 hb1 hg1 hg2 hg3
          go_wp2
          go_ret2
          exact ⟨_, rfl, by have h := HR1.out; simpa [World.setCell] using h, HB1.out⟩
        · have h3' : inB (el xs k + a) (-1000000000) 1000000000 = false := by simpa using h3
          have hok : putOk xs k a = false := by simp [putOk, h3']
          clear h3
          rw [putF_no hok, hok]
          clear hok
          go_enter Try.func33, Try.ntmps33
          go_wp2_with (first | (go_at_call 39; refine (c_iTableValid _ xs _ _ hv0).mono ?_; rintro e w' ⟨rfl, rfl⟩) | (go_at_call 75; refine (c_within _ _ _ (by omega) (by omega)).mono ?_; rintro e w' ⟨rfl, rfl⟩))
          go_ret2
          exact ⟨_, rfl, Rw.nil _ _ _, Below.refl _ _⟩
      · have h2' : inB a (-1000000000) 1000000000 = false := by simpa using h2
        have hok : putOk xs k a = false := by simp [putOk, h2']
        clear h2
        rw [putF_no hok, hok]
        clear hok
        go_enter Try.func33, Try.ntmps33
        go_wp2_with (first | (go_at_call 39; refine (c_iTableValid _ xs _ _ hv0).mono ?_; rintro e w' ⟨rfl, rfl⟩) | (go_at_call 75; refine (c_within _ _ _ (by omega) (by omega)).mono ?_; rintro e w' ⟨rfl, rfl⟩))
        go_ret2
        exact ⟨_, rfl, Rw.nil _ _ _, Below.refl _ _⟩
    · clear hc
      by_cases hp : p < 0
      · have hok : putOk xs p a = false := by simp [putOk, inB_no (n := p) (lo := 0) (hi := (xs.length : Int) - 1) (by omega)]
        rw [putF_no hok, hok]
        clear hok
        go_enter Try.func33, Try.ntmps33
        go_wp2_with (first | (go_at_call 39; refine (c_iTableValid _ xs _ _ hv0).mono ?_; rintro e w' ⟨rfl, rfl⟩))
        go_ret2
        exact ⟨_, rfl, Rw.nil _ _ _, Below.refl _ _⟩
      · have hok : putOk xs p a = false := by simp [putOk, inB_no (n := p) (lo := 0) (hi := (xs.length : Int) - 1) (by omega)]
        have hp' : (xs.length : Int) ≤ p := by omega
        clear h1
        rw [putF_no hok, hok]
        clear hok
        go_enter Try.func33, Try.ntmps33
        go_wp2_with (first | (go_at_call 39; refine (c_iTableValid _ xs _ _ hv0).mono ?_; rintro e w' ⟨rfl, rfl⟩))
        go_ret2
        exact ⟨_, rfl, Rw.nil _ _ _, Below.refl _ _⟩
  · have hT' : TB xs = false := by simpa using hT
    have hok : putOk xs p a = false := by simp [putOk, hT']
    clear hT hc
    rw [putF_no hok, hok]
    clear hok
    go_enter Try.func33, Try.ntmps33
    go_wp2_with (first | (go_at_call 39; refine (c_iTableValid _ xs _ _ hv0).mono ?_; rintro e w' ⟨rfl, rfl⟩))
    go_ret2
    exact ⟨_, rfl, Rw.nil _ _ _, Below.refl _ _⟩

theorem c_l4Put (w : World) (v : Value) (xs : List Int) (hv : IsI w w.heap.size v xs) (k : Nat) (hk : k < xs.length) (hl : xs.length ≤ 60) (a : Int) (ha : -4000000000000000 ≤ a ∧ a ≤ 4000000000000000) (hB : Bd 4000000000 xs) :
    Calls Try.prog 82 #[v, .int .i64 k, .int .i64 a] w (RetRow w (xs.set k (el xs k + a))) := by
  obtain ⟨ad, cap, rfl, hm, hr, hc⟩ := hv
  unfold maxLen at hm
  obtain ⟨x0, x1⟩ := hB k hk
  obtain ⟨a0, a1⟩ := ha
  have HR := hid hr
  obtain ⟨b, off, rfl, hb, hcell⟩ := hc k hk
  have HC' : Hid (∀ j, j < xs.length → (w.alloc (.cells #[] 3)).cell? ((⟨b, off, none⟩ : Addr).add j) = some (.int .i64 (el xs j))) := by
    intro j hj
    have e : (⟨b, off, none⟩ : Addr).add j = ⟨b, off + j, none⟩ := by unfold Addr.add; split <;> simp_all
    rw [e, World.cell?_alloc_past _ _ _ hb]
    exact hcell j hj
  clear hr hc hcell hB
  go_enter Try.func82, Try.ntmps82
  go_wp2_with (at_builtin; refine wpList_appSrc rfl _ _ _ rfl Try.underlying23 Try.infoInt w.heap.size (.slice (some ⟨w.heap.size, 0, none⟩) 0 0) [] (by rfl) (OwnI.empty w (Nat.le_refl _) rfl) ⟨b, off, none⟩ cap xs (by rfl) HC'.out (by simp; omega) (by simp) ?_; intro v1 w1 hown1 hb1; obtain ⟨g, cap1, hv1, hg1, hg2, hg3, hgc, hgf⟩ := (OwnI.rw hown1 HR.out (Nat.le_refl _)).split (by simp; omega); rw [hv1] at hown1 ⊢; clear hv1)
  go_ret
  have hR1 := Rw.set (OwnI.rw hown1 HR.out (Nat.le_refl _)) hk (x := el xs k + a) (by omega)
  exact ⟨_, rfl, by simpa [World.setCell] using hR1, ((RetRow.e1 _ _).trans hb1).setCell (p := ⟨g, k, none⟩) hg1 _⟩

end Go.Proofs.Ytkiebajggombiaa
