/- What is proved here: contracts of CorrectTable (impl and spec). -/
import Derived.Test.YtkiebajggombiaaFes
import Derived.Test.YtkiebajggombiaaPut
set_option linter.unusedVariables false
set_option linter.unusedSimpArgs false
namespace Go.Proofs.Ytkiebajggombiaa
open Go.RowKit

/-- Whether a table can be corrected. -/
def ctOk (xs : List Int) (d : Int) : Bool := decide ((feF xs d).2.2 = 0 ∨ (feF xs d).2.2 = 1)
/-- The corrected table. -/
def ctF (xs : List Int) (d : Int) : List Int :=
  if (feF xs d).2.2 = 0 then xs else if (feF xs d).2.2 = 1 then xs.set (feF xs d).1.toNat (el xs (feF xs d).1.toNat - (feF xs d).2.1) else []
/-- The ways a search can end. -/
theorem fe_ways (xs : List Int) (d : Int) : (feF xs d = (0, 0, 3) ∧ feOk xs d = false) ∨
    (feOk xs d = true ∧ ((feF xs d = (0, 0, 0) ∧ az (dN xs (d.toNat + 1)) = true) ∨ (feF xs d = (0, 0, 2) ∧ az (dN xs (d.toNat + 1)) = false ∧ feS (dN xs (d.toNat + 1)) (d.toNat + 1) 0 xs.length = none) ∨
     ∃ a : Nat, a < xs.length ∧ feF xs d = ((a : Int), gsF (dN xs (d.toNat + 1)) (d.toNat + 1) a, 1) ∧ az (dN xs (d.toNat + 1)) = false ∧ feS (dN xs (d.toNat + 1)) (d.toNat + 1) 0 xs.length = some a ∧ exB (dN xs (d.toNat + 1)) (d.toNat + 1) a = true)) := by
  by_cases hok : feOk xs d = true
  · right
    refine ⟨hok, ?_⟩
    obtain ⟨hT, ⟨d0, d1⟩, hl⟩ := feOk_iff.1 hok
    obtain ⟨k, rfl⟩ : ∃ k : Nat, d = k := ⟨d.toNat, by omega⟩
    rw [Int.toNat_natCast]
    by_cases hz : az (dN xs (k + 1)) = true
    · exact .inl ⟨feF_none hok hz, hz⟩
    · have hz' : az (dN xs (k + 1)) = false := by simpa using hz
      right
      cases hs : feS (dN xs (k + 1)) (k + 1) 0 xs.length with
      | none => exact .inl ⟨feF_many hok hz' hs, hz', rfl⟩
      | some a =>
        obtain ⟨_, h2, h3⟩ := feS_some hs
        exact .inr ⟨a, by omega, feF_one hok hz' hs, hz', rfl, h3⟩
  · have hok' : feOk xs d = false := by simpa using hok
    exact .inl ⟨feF_bad hok', hok'⟩
theorem ctF_len {xs : List Int} {d : Int} : (ctF xs d).length ≤ 60 := by
  unfold ctF
  rcases fe_ways xs d with ⟨h, -⟩ | ⟨h1, h⟩
  · rw [h]; simp
  · have h60 := (TB_iff.1 (feOk_iff.1 h1).1).2.1
    split
    · exact h60
    · split
      · simpa using h60
      · simp

set_option maxHeartbeats 800000 in
theorem c_iCorrectTable (w : World) (v : Value) (xs : List Int) (hv : IsI w w.heap.size v xs) (d : Int) :
    Calls Try.prog 35 #[v, .int .i64 d] w (RetRowB w (ctF xs d) (ctOk xs d)) := by
  have hw := fe_ways xs d
  have HC := hid (show ctF xs d = _ from rfl)
  have HO := hid (show ctOk xs d = _ from rfl)
  go_enter Try.func35, Try.ntmps35
  go_wp2_with fail
  refine (c_iFindError _ _ xs hv d).mono ?_
  rintro e w1 ⟨rfl, b1⟩
  have s1 := b1.size
  have hv1 := hv.below b1 (Nat.le_refl _)
  rcases hw with ⟨h, -⟩ | ⟨hok, h⟩
  · have HR : Hid (ctF xs d = [] ∧ ctOk xs d = false) := by
      show _ ∧ _
      unfold ctF ctOk; rw [h]; exact ⟨rfl, rfl⟩
    rw [h]
    clear h
    go_wp2
    go_ret2
    exact ⟨_, by rw [HR.out.2]; rfl, by rw [HR.out.1]; exact Rw.nil _ _ _, b1⟩
  · obtain ⟨hT, ⟨d0, d1⟩, hl⟩ := feOk_iff.1 hok
    have h60 := (TB_iff.1 hT).2.1
    have HT := hid (TB_Bd hT)
    have HDB := hid (dN_bd8 hT (show d.toNat + 1 ≤ 7 by omega))
    have HDL := hid (dN_len xs (d.toNat + 1))
    clear hT hok
    rcases h with ⟨h, -⟩ | ⟨h, -, -⟩ | ⟨a, ha, h, -, -, -⟩
    · have HR : Hid (ctF xs d = xs ∧ ctOk xs d = true) := by
        show _ ∧ _
        unfold ctF ctOk; rw [h]; exact ⟨rfl, rfl⟩
      rw [h]
      clear h
      go_wp2_with fail
      refine (c_CloneI _ xs _ (by omega) (hv1.up s1)).mono ?_
      rintro e w2 ⟨v2, rfl, r2, b2⟩
      go_wp2
      go_ret2
      exact ⟨_, by rw [HR.out.2]; rfl, by rw [HR.out.1]; exact r2.down s1, b1.trans (b2.mono s1)⟩
    · have HR : Hid (ctF xs d = [] ∧ ctOk xs d = false) := by
        show _ ∧ _
        unfold ctF ctOk; rw [h]; exact ⟨rfl, rfl⟩
      rw [h]
      clear h
      go_wp2
      go_ret2
      exact ⟨_, by rw [HR.out.2]; rfl, by rw [HR.out.1]; exact Rw.nil _ _ _, b1⟩
    · have HR : Hid (ctF xs d = xs.set a (el xs a - gsF (dN xs (d.toNat + 1)) (d.toNat + 1) a) ∧ ctOk xs d = true) := by
        show _ ∧ _
        unfold ctF ctOk; rw [h]; exact ⟨rfl, rfl⟩
      have hgb := gs_bd (o := d.toNat + 1) (a := a) HDB.out (by rw [HDL.out]; omega) (by omega) (by omega)
      obtain ⟨g0, g1⟩ := hgb
      obtain ⟨x0, x1⟩ := HT.out a ha
      rw [h]
      clear h
      generalize gsF (dN xs (d.toNat + 1)) (d.toNat + 1) a = G at *
      go_wp2_with fail
      refine (c_CloneI _ xs _ (by omega) (hv1.up s1)).mono ?_
      rintro e w2 ⟨v2, rfl, r2, b2⟩
      obtain ⟨gg, cap2, rfl, hg1, hg2, hg3, hgc, hgf⟩ := r2.split (by omega)
      have c1 := hgc a ha
      have f1 := hgf a
      have hr3 := (r2.down (lo' := w.heap.size) s1).set ha (x := el xs a - G) (by omega)
      have b3 := b1.trans (b2.mono s1)
      have k1 : (a : Int) < xs.length := by omega
      clear hgc hgf
      go_wp2
      go_ret2
      exact ⟨_, by rw [HR.out.2]; rfl, by rw [HR.out.1]; simpa [World.setCell] using hr3, b3.setCell (p := ⟨gg, a, none⟩) (by show w.heap.size ≤ gg; omega) _⟩
set_option maxHeartbeats 800000 in
theorem c_sCorrectTable (w : World) (v : Value) (xs : List Int) (hv : IsI w w.heap.size v xs) (d : Int) :
    Calls Try.prog 38 #[v, .int .i64 d] w (RetRowB w (ctF xs d) (ctOk xs d)) := by
  have hw := fe_ways xs d
  go_enter Try.func38, Try.ntmps38
  go_wp2_with fail
  refine (c_sFindError _ _ xs hv d).mono ?_
  rintro e w1 ⟨rfl, b1⟩
  have s1 := b1.size
  have hv1 := hv.below b1 (Nat.le_refl _)
  have he : Rw (w1.alloc (.cells #[] 3)) w.heap.size (w1.alloc (.cells #[] 3)).heap.size (.slice (some ⟨w1.heap.size, 0, none⟩) 0 0) [] := (RetRow.e0 w1 rfl).down s1
  have be := b1.alloc s1 (.cells #[] 3)
  rcases hw with ⟨h, -⟩ | ⟨hok, h⟩
  · have HR : Hid (ctF xs d = [] ∧ ctOk xs d = false) := by
      show _ ∧ _
      unfold ctF ctOk; rw [h]; exact ⟨rfl, rfl⟩
    rw [h]
    clear h
    go_wp2
    go_ret2
    exact ⟨_, by rw [HR.out.2]; rfl, by rw [HR.out.1]; exact he, be⟩
  · obtain ⟨hT, ⟨d0, d1⟩, hl⟩ := feOk_iff.1 hok
    have h60 := (TB_iff.1 hT).2.1
    have HT := hid (TB_Bd hT)
    have HDB := hid (dN_bd8 hT (show d.toNat + 1 ≤ 7 by omega))
    have HDL := hid (dN_len xs (d.toNat + 1))
    clear hT hok
    rcases h with ⟨h, -⟩ | ⟨h, -, -⟩ | ⟨a, ha, h, -, -, -⟩
    · have HR : Hid (ctF xs d = xs ∧ ctOk xs d = true) := by
        show _ ∧ _
        unfold ctF ctOk; rw [h]; exact ⟨rfl, rfl⟩
      have hv2 := hv1.below (RetRow.e1 w1 (.cells #[] 3)) s1
      have HVR := hid hv.range
      rw [h]
      clear h
      go_wp2_with (at_builtin; refine wpList_appIs rfl _ _ _ rfl Try.underlying23 Try.infoInt w1.heap.size (.slice (some ⟨w1.heap.size, 0, none⟩) 0 0) [] (by rfl) (OwnI.empty w1 (Nat.le_refl _) rfl) _ _ xs hv2 (by rfl) (by simp; omega) (by simp) ?_; intro v2 w2 hown2 b2)
      go_ret2
      exact ⟨_, by rw [HR.out.2]; rfl, by rw [HR.out.1]; exact (Rw.down (OwnI.rw hown2 HVR.out (Nat.le_refl _)) s1), be.trans (b2.mono s1)⟩
    · have HR : Hid (ctF xs d = [] ∧ ctOk xs d = false) := by
        show _ ∧ _
        unfold ctF ctOk; rw [h]; exact ⟨rfl, rfl⟩
      rw [h]
      clear h
      go_wp2
      go_ret2
      exact ⟨_, by rw [HR.out.2]; rfl, by rw [HR.out.1]; exact he, be⟩
    · have HR : Hid (ctF xs d = xs.set a (el xs a - gsF (dN xs (d.toNat + 1)) (d.toNat + 1) a) ∧ ctOk xs d = true) := by
        show _ ∧ _
        unfold ctF ctOk; rw [h]; exact ⟨rfl, rfl⟩
      have hgb := gs_bd (o := d.toNat + 1) (a := a) HDB.out (by rw [HDL.out]; omega) (by omega) (by omega)
      obtain ⟨g0, g1⟩ := hgb
      rw [h]
      clear h
      generalize gsF (dN xs (d.toNat + 1)) (d.toNat + 1) a = G at *
      have k1 : IntKind.i64.wrap (-G) = -G := IntWalk.i64_in _ (by omega)
      go_wp2_with fail
      refine (c_l4Put _ _ xs (hv1.up s1) a ha h60 _ (by omega) (HT.out.mono (by omega))).mono ?_
      rintro e w2 ⟨v2, rfl, r2, b2⟩
      have HE := hid (show el xs a + -G = el xs a - G by omega)
      go_wp2
      go_ret2
      exact ⟨_, by rw [HR.out.2]; rfl, by rw [HR.out.1, ← HE.out]; exact r2.down s1, b1.trans (b2.mono s1)⟩
end Go.Proofs.Ytkiebajggombiaa
