/- What is proved here: the walk of laws.FnPutError. -/
import Derived.Test.YtefdnkhmgefdaaaDraw3
import Derived.Test.YtefdnkhmgefdaaaPut
import Derived.Test.YtefdnkhmgefdaaaEof
import Derived.Test.YtefdnkhmgefdaaaLaws1
set_option linter.unusedVariables false
set_option linter.unusedSimpArgs false
namespace Go.Proofs.Ytefdnkhmgefdaaa
open Go.RowKit

theorem put_back {xs : List Int} {k : Nat} {a : Int} (h : putOk xs k a = true) : putOk (putF xs k a) k (-a) = true ∧ putF (putF xs k a) k (-a) = xs := by
  have hF : putF xs k a = xs.set k (el xs k + a) := putF_ok h
  obtain ⟨hT, hk, ha, hb⟩ := putOk_iff.1 h
  have hk' : k < xs.length := by omega
  have he : el (xs.set k (el xs k + a)) k = el xs k + a := el_set_same hk'
  have hT2 : TB (xs.set k (el xs k + a)) = true := by
    rw [TB_set hT hk']; exact inB_iff.2 hb
  have hx := TB_Bd hT k hk'
  have hok : putOk (xs.set k (el xs k + a)) k (-a) = true := by
    refine putOk_iff.2 ⟨hT2, by rw [List.length_set]; exact hk, by omega, ?_⟩
    rw [Int.toNat_natCast, he]; omega
  rw [hF]
  refine ⟨hok, ?_⟩
  rw [show putF (xs.set k (el xs k + a)) k (-a) = (xs.set k (el xs k + a)).set k (el (xs.set k (el xs k + a)) k + -a) from putF_ok hok, he, set_set, show el xs k + a + -a = el xs k by omega]
  refine list_ext (by simp) fun j hj => ?_
  by_cases e : k = j
  · subst e; rw [el_set_same hk']
  · rw [el_set_other e]
theorem erT_set {xs : List Int} {k : Nat} (hk : k < xs.length) (y : Int) : ∀ j, erT xs (xs.set k y) j = if el xs k = y ∨ j ≤ k then [] else [(k : Int), y, el xs k] := by
  intro j
  induction j with
  | zero => rw [if_pos (.inr (Nat.zero_le _))]; rfl
  | succ j ih =>
    rw [erT, ih]
    by_cases e : k = j
    · subst e
      rw [el_set_same hk]
      by_cases e2 : el xs k = y
      · rw [if_pos e2, if_pos (.inl e2), if_pos (.inl e2)]
      · rw [if_neg e2, if_pos (.inr (Nat.le_refl _)), if_neg (by intro h; rcases h with h | h; exact e2 h; omega)]; rfl
    · rw [el_set_other e, if_pos rfl]
      by_cases e2 : el xs k = y ∨ j ≤ k
      · rw [if_pos e2, if_pos (by rcases e2 with h | h; exact .inl h; right; omega)]
      · rw [if_neg e2, if_neg (by intro h; apply e2; rcases h with h | h; exact .inl h; right; omega)]
theorem put_errata {xs : List Int} {k : Nat} {a : Int} (h : putOk xs k a = true) : alike2 xs (putF xs k a) = true ∧ erF xs (putF xs k a) = if a = 0 then [] else [(k : Int), el xs k + a, el xs k] := by
  have hF : putF xs k a = xs.set k (el xs k + a) := putF_ok h
  obtain ⟨hT, hk, ha, hb⟩ := putOk_iff.1 h
  have hk' : k < xs.length := by omega
  have hT2 : TB (xs.set k (el xs k + a)) = true := by rw [TB_set hT hk']; exact inB_iff.2 hb
  have hA : alike2 xs (xs.set k (el xs k + a)) = true := by simp [alike2, hT, hT2]
  rw [hF]
  refine ⟨hA, ?_⟩
  rw [erF_yes hA, erT_set hk']
  by_cases h0 : a = 0
  · rw [if_pos h0, if_pos (.inl (by omega))]
  · rw [if_neg h0, if_neg (by intro h; rcases h with h | h <;> omega)]

set_option maxRecDepth 100000 in
set_option maxHeartbeats 1600000 in
theorem w_FnPutError (w : World) (v : Value) (nb : Nat) (hv : IsBy w w.heap.size v nb) :
    Calls Try.prog 7 #[v] w fun e w' => e = .returned (.bool true) ∧ Below w.heap.size w w' := by
  obtain ⟨a, cap, hva, hm, hc⟩ := id hv
  subst hva
  unfold maxLen at hm
  clear hc
  by_cases hbig : 1048576 < nb
  · clear hv
    go_enter Try.func7, Try.ntmps7
    go_wp2_with fail
    go_ret
    exact ⟨rfl, Below.refl _ _⟩
  · go_enter Try.func7, Try.ntmps7
    go_wp2_with fail
    refine (c_DrawPutError _ _ _ hv).mono ?_
    rintro e w1 ⟨vx, xs, p, am, rfl, ⟨-, -⟩, hx, b⟩
    have s1 := b.size
    clear hv
    go_wp2_with fail
    refine (c_iPutError _ _ xs hx p am).mono ?_
    rintro e w3 ⟨v2, rfl, r2, c⟩
    have s3 := c.size
    replace hx := hx.below c (by omega)
    replace b := b.trans (c.mono (by omega))
    clear c
    go_wp2_with fail
    refine (c_sPutError _ _ xs (hx.up (by omega)) p am).mono ?_
    rintro e w4 ⟨v3, rfl, r3, c⟩
    have s4 := c.size
    replace hx := hx.below c (by omega)
    replace b := b.trans (c.mono (by omega))
    replace r2 := r2.below c (by omega)
    clear c
    go_wp2_with fail
    refine (deSmC _ _ _ _ _ _ r2.isI r3.isI).mono ?_
    rintro e w5 ⟨rfl, c⟩
    have s5 := c.size
    replace hx := hx.chg c (by omega) (by omega)
    replace b := b.trans (c.below (by omega) (by omega))
    replace r2 := r2.keep c (by omega)
    replace r3 := r3.keep c (by omega)
    clear c
    by_cases hok : putOk xs p am = true
    · have HOK := hid hok
      obtain ⟨hT, ⟨p0, p1⟩, ⟨a0, a1⟩, -⟩ := putOk_iff.1 hok
      obtain ⟨k, rfl⟩ : ∃ k : Nat, p = k := ⟨p.toNat, by omega⟩
      have HPB := hid (put_back hok)
      have HPE := hid (put_errata hok)
      have t1 : (true != true) = false := rfl
      clear r3
      rw [hok]
      clear hok hT
      generalize putF xs k am = ys at *
      have k0 : IntKind.i64.wrap (-am) = -am := IntWalk.i64_in _ (by omega)
      go_wp2_with fail
      refine (c_iPutError _ _ ys (r2.isI.up (by omega)) _ _).mono ?_
      rintro e w6 ⟨v4, rfl, r4, c⟩
      have s6 := c.size
      replace hx := hx.below c (by omega)
      replace b := b.trans (c.mono (by omega))
      replace r2 := r2.below c (by omega)
      clear c
      rw [HPB.out.1]
      rw [HPB.out.2] at r4
      go_wp2_with fail
      refine (c_iErrataOf _ _ xs (hx.up (by omega)) _ ys (r2.isI.up (by omega))).mono ?_
      rintro e w7 ⟨v5, rfl, r5, c⟩
      have s7 := c.size
      replace hx := hx.below c (by omega)
      replace b := b.trans (c.mono (by omega))
      replace r2 := r2.below c (by omega)
      replace r4 := r4.below c (by omega)
      clear c
      rw [HPE.out.1]
      by_cases h0 : am = 0
      · have h0' : (am == 0) = true := by simpa using h0
        rw [HPE.out.2, if_pos h0] at r5
        obtain ⟨n5, a5, cap5, rfl, HL5, -, -, -⟩ := r5.isI
        have hn5 : n5 = 0 := by have := HL5.out; simp at this; omega
        subst hn5
        clear h0
        go_wp2_with fail
        refine (deSmC _ _ _ _ _ _ r4.isI hx).mono ?_
        rintro e w8 ⟨rfl, c⟩
        have s8 := c.size
        replace hx := hx.chg c (by omega) (by omega)
        replace b := b.trans (c.below (by omega) (by omega))
        replace r2 := r2.keep c (by omega)
        replace r4 := r4.keep c (by omega)
        clear c
        go_wp2_with fail
        go_ret
        exact ⟨rfl, b⟩
      · have h0' : (am == 0) = false := by simpa using h0
        rw [HPE.out.2, if_neg h0] at r5
        clear h0
        go_wp2_with fail
        refine (deSmC _ _ _ _ _ _ r4.isI hx).mono ?_
        rintro e w9 ⟨rfl, c⟩
        have s9 := c.size
        replace hx := hx.chg c (by omega) (by omega)
        replace b := b.trans (c.below (by omega) (by omega))
        replace r2 := r2.keep c (by omega)
        replace r4 := r4.keep c (by omega)
        replace r5 := r5.keep c (by omega)
        clear c
        obtain ⟨n5, a5, cap5, rfl, HL5, hm5, -, hc5⟩ := r5.isI
        have hn5 : n5 = 1 := by have := HL5.out; simp at this; omega
        subst hn5
        obtain ⟨b5, o5, rfl, hb5, hcell5⟩ := hc5 0 (by omega)
        have g5 := hcell5 0 (by omega)
        rw [Nat.add_zero] at g5
        have e5 : el [(k : Int), el xs k + am, el xs k] 0 = k := rfl
        rw [e5] at g5
        clear hc5 hcell5 e5
        go_wp2_with fail
        go_ret
        exact ⟨rfl, b⟩
    · have hok' : putOk xs p am = false := by simpa using hok
      have t1 : (false != false) = false := rfl
      rw [hok']
      clear hok
      go_wp2_with fail
      refine (deSmC _ _ _ _ _ _ r2.isI r3.isI).mono ?_
      rintro e w10 ⟨rfl, c⟩
      have s10 := c.size
      replace hx := hx.chg c (by omega) (by omega)
      replace b := b.trans (c.below (by omega) (by omega))
      replace r2 := r2.keep c (by omega)
      replace r3 := r3.keep c (by omega)
      clear c
      go_wp2_with fail
      go_ret
      exact ⟨rfl, b⟩
end Go.Proofs.Ytefdnkhmgefdaaa
