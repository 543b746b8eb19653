/- What is proved here: contracts of DrawTableValid, DrawNinesOf, DrawWrongNines, DrawPutError, DrawCleanTable, DrawFindError, DrawDiagnoseSlip, DrawErrataOf. -/
import Derived.Test.YtkiebajggombiaaDraw2
import Derived.Test.YtkiebajggombiaaDraw1
import Derived.Test.YtkiebajggombiaaErr2
import Derived.Test.YtkiebajggombiaaErr3
set_option linter.unusedVariables false
set_option linter.unusedSimpArgs false
namespace Go.Proofs.Ytkiebajggombiaa
open Go.RowKit

theorem Rd.drew {w : World} {B g L : Nat} (h : Rd w B g L) : Rd w.drew B g L := h
theorem Wc.drew {w : World} {g off cap : Nat} {xs : List Int} (h : Wc w g off cap xs) : Wc w.drew g off cap xs := h
theorem Chg.undrew {lo hi : Nat} {w w' : World} (c : Chg lo hi w.drew w') : Chg lo hi w w' := ⟨c.os, c.tape, c.output, c.size, c.block⟩
theorem OwnI.ch2 {w w' : World} {B g b : Nat} {v : Value} {xs : List Int} (h : OwnI w B v xs) (c : Ch2 g b w w') (h1 : g < B) (h2 : b < B) : OwnI w' B v xs :=
  ownsRow_of_block h fun k hk => c.block k (h.lt k hk).2 (by have := (h.lt k hk).1; omega) (by have := (h.lt k hk).1; omega)
theorem OwnI.drew {w : World} {B : Nat} {v : Value} {xs : List Int} (h : OwnI w B v xs) : OwnI w.drew B v xs := h
/-- What is left by a call that answers some table, whatever it holds. -/
def OneTab (w : World) (e : Ending) (w' : World) : Prop := ∃ v xs, e = .returned v ∧ IsI w' w'.heap.size v xs ∧ Below w.heap.size w w'
/-- .. two tables. -/
def TwoTabs (w : World) (e : Ending) (w' : World) : Prop := ∃ v u xs ys, e = .returned (.tuple #[v, u]) ∧ IsI w' w'.heap.size v xs ∧ IsI w' w'.heap.size u ys ∧ Below w.heap.size w w'
/-- .. a table and a number. -/
def TabInt (w : World) (e : Ending) (w' : World) : Prop := ∃ (v : Value) (xs : List Int) (n : Int), e = .returned (.tuple #[v, .int .i64 n]) ∧ I64 n ∧ IsI w' w'.heap.size v xs ∧ Below w.heap.size w w'
/-- .. a table and two numbers. -/
def TabInts (w : World) (e : Ending) (w' : World) : Prop := ∃ (v : Value) (xs : List Int) (n m : Int), e = .returned (.tuple #[v, .int .i64 n, .int .i64 m]) ∧ (I64 n ∧ I64 m) ∧ IsI w' w'.heap.size v xs ∧ Below w.heap.size w w'

theorem c_DrawCleanTable (w : World) (v : Value) (k : Nat) (hv : IsBy w w.heap.size v k) :
    Calls Try.prog 30 #[v] w (TabInt w) := by
  go_enter Try.func30, Try.ntmps30
  go_wp2_with fail
  refine (c_l9Open _ _ _ hv).mono ?_
  rintro e w0 ⟨rfl, r, b, sz⟩
  clear hv
  go_wp2_with fail
  refine (c_l4Table _ _ _ _ (by omega) r).mono ?_
  clear r
  rintro e w1 ⟨g, cap, xs, d, rfl, ⟨⟨d0, d1⟩, x0, x1, -⟩, hg, hw, r, cc⟩
  have s1 := cc.size
  replace b := b.trans (cc.below (by omega) (by omega))
  clear cc
  go_wp2_with fail
  refine (c_pick _ _ _ _ _ (by omega) (by omega) r).mono ?_
  clear r
  rintro e w2 ⟨x, rfl, xq, r, c⟩
  have s2 := c.size
  obtain ⟨x0, x1⟩ := xq.1 (by omega)
  clear xq
  replace b := b.trans (c.below (by omega) (by omega))
  replace hw := hw.chg c (by omega)
  clear c
  by_cases h : x = 0
  · subst h
    go_wp2_with fail
    refine (c_pick _ _ _ _ _ (by omega) (by omega) r).mono ?_
    clear r
    rintro e w3 ⟨k1, rfl, k1q, r, c⟩
    have s3 := c.size
    obtain ⟨k10, k11⟩ := k1q.1 (by omega)
    clear k1q
    replace b := b.trans (c.below (by omega) (by omega))
    replace hw := hw.chg c (by omega)
    clear c
    obtain ⟨j, rfl⟩ : ∃ j : Nat, k1 = j := ⟨k1.toNat, by omega⟩
    go_wp2_with fail
    refine (c_pick _ _ _ _ _ (by omega) (by omega) r).mono ?_
    clear r
    rintro e w4 ⟨y, rfl, yq, r, c⟩
    have s4 := c.size
    obtain ⟨y0, y1⟩ := yq.1 (by omega)
    clear yq
    replace b := b.trans (c.below (by omega) (by omega))
    replace hw := hw.chg c (by omega)
    clear c
    have hj : j < xs.length := by omega
    have hc := hw.cell0 j hj
    have hf := hw.free j
    have hw2 := hw.set0 hj (x := y) (by omega)
    have HS' := hid (show xs.length = (xs.set j y).length by simp)
    replace r := r.setb (b := g) (by omega) (by omega) j (.int .i64 y)
    replace b := b.setCell (p := ⟨g, j, none⟩) (by show w.heap.size ≤ g; omega) (.int .i64 y)
    have bs := hw2.lt
    go_wp2_with fail
    rw [HS'.out]
    refine (c_l2BadTable _ _ _ _ _ _ _ _ (by omega) (by rw [← HS'.out]; omega) (by rw [← HS'.out]; omega) ⟨by omega, by omega⟩ hw2 r).mono ?_
    clear r
    rintro e w9 ⟨g', off, cap', ys, rfl, hg', hw', r, c2⟩
    have s9 := c2.size
    replace b := b.trans (c2.below (B := w.heap.size) (by omega) (by omega) (by omega))
    clear c2
    go_wp2_with fail
    refine (c_l4Off _ _ _ _ _ (by omega) (by omega) r).mono ?_
    clear r
    rintro e w8 ⟨z, rfl, ⟨z0, z1⟩, r, c⟩
    replace hw' := hw'.chg c (by omega)
    replace b := b.trans (c.below (by omega) (by omega))
    go_wp2
    go_ret2
    exact ⟨_, ys, _, rfl, by unfold I64; omega, hw'.isI hw'.lt, b⟩
  · have t0 : (x == 0) = false := by simp; omega
    go_wp2_with fail
    refine (c_l2BadTable _ _ _ _ _ _ _ _ (by omega) (by omega) (by omega) ⟨by omega, by omega⟩ hw r).mono ?_
    clear r
    rintro e w9 ⟨g', off, cap', ys, rfl, hg', hw', r, c2⟩
    have s9 := c2.size
    replace b := b.trans (c2.below (B := w.heap.size) (by omega) (by omega) (by omega))
    clear c2
    go_wp2_with fail
    refine (c_l4Off _ _ _ _ _ (by omega) (by omega) r).mono ?_
    clear r
    rintro e w8 ⟨z, rfl, ⟨z0, z1⟩, r, c⟩
    replace hw' := hw'.chg c (by omega)
    replace b := b.trans (c.below (by omega) (by omega))
    go_wp2
    go_ret2
    exact ⟨_, ys, _, rfl, by unfold I64; omega, hw'.isI hw'.lt, b⟩

end Go.Proofs.Ytkiebajggombiaa
