/- What is proved here: contracts of DrawTableValid, DrawNinesOf, DrawWrongNines, DrawPutError, DrawCleanTable, DrawFindError, DrawDiagnoseSlip, DrawErrataOf. -/
import Derived.Test.YtefdnkhmgefdaaaDraw2
import Derived.Test.YtefdnkhmgefdaaaDraw1
import Derived.Test.YtefdnkhmgefdaaaErr2
import Derived.Test.YtefdnkhmgefdaaaErr3
set_option linter.unusedVariables false
set_option linter.unusedSimpArgs false
namespace Go.Proofs.Ytefdnkhmgefdaaa
open Go.RowKit

theorem Rd.drew {w : World} {B g L : Nat} (h : Rd w B g L) : Rd w.drew B g L := h
theorem Wc.drew {w : World} {g off cap : Nat} {xs : List Int} (h : Wc w g off cap xs) : Wc w.drew g off cap xs := h
theorem Chg.undrew {lo hi : Nat} {w w' : World} (c : Chg lo hi w.drew w') : Chg lo hi w w' := ⟨c.os, c.tape, c.output, c.size, c.block⟩
theorem OwnI.ch2 {w w' : World} {B g b : Nat} {v : Value} {xs : List Int} (h : OwnI w B v xs) (c : Ch2 g b w w') (h1 : g < B) (h2 : b < B) : OwnI w' B v xs :=
  ownsRow_of_block h fun k hk => c.block k (h.lt k hk).2 (by have := (h.lt k hk).1; omega) (by have := (h.lt k hk).1; omega)
theorem OwnI.drew {w : World} {B : Nat} {v : Value} {xs : List Int} (h : OwnI w B v xs) : OwnI w.drew B v xs := h
/-- What is left by a call that answers some table, whatever it holds. -/
def OneTab (w : World) (e : Ending) (w' : World) : Prop := ∃ v xs, e = .returned v ∧ IsI w' w'.heap.size v xs ∧ Below w.heap.size w w'
/-- .. two tables. -/
def TwoTabs (w : World) (e : Ending) (w' : World) : Prop := ∃ v u xs ys, e = .returned (.tuple #[v, u]) ∧ IsI w' w'.heap.size v xs ∧ IsI w' w'.heap.size u ys ∧ Below w.heap.size w w'
/-- .. a table and a number. -/
def TabInt (w : World) (e : Ending) (w' : World) : Prop := ∃ (v : Value) (xs : List Int) (n : Int), e = .returned (.tuple #[v, .int .i64 n]) ∧ I64 n ∧ IsI w' w'.heap.size v xs ∧ Below w.heap.size w w'
/-- .. a table and two numbers. -/
def TabInts (w : World) (e : Ending) (w' : World) : Prop := ∃ (v : Value) (xs : List Int) (n m : Int), e = .returned (.tuple #[v, .int .i64 n, .int .i64 m]) ∧ (I64 n ∧ I64 m) ∧ IsI w' w'.heap.size v xs ∧ Below w.heap.size w w'

theorem c_DrawTableValid (w : World) (v : Value) (k : Nat) (hv : IsBy w w.heap.size v k) :
    Calls Try.prog 69 #[v] w (OneTab w) := by
  go_enter Try.func69, Try.ntmps69
  go_wp2_with fail
  refine (c_l9Open _ _ _ hv).mono ?_
  rintro e w0 ⟨rfl, r, b, sz⟩
  go_wp2_with fail
  refine (c_l2Table _ _ _ _ (by omega) r).mono ?_
  clear r
  rintro e w1 ⟨g, cap, xs, rfl, ⟨⟨x0, x1⟩, -⟩, hg, hw, r, cc⟩
  have s1 := cc.size
  replace b := b.trans (cc.below (by omega) (by omega))
  clear cc
  go_wp2_with fail
  refine (c_l2BadTable _ _ _ _ _ _ _ _ (by omega) x0 (by omega) ⟨by omega, by omega⟩ hw r).mono ?_
  clear r
  rintro e w2 ⟨g', off, cap', ys, rfl, hg', hw', r, c2⟩
  have s2 := c2.size
  replace b := b.trans (c2.below (B := w.heap.size) (by omega) (by omega) (by omega))
  go_wp2
  go_ret
  exact ⟨_, ys, rfl, hw'.isI hw'.lt, b⟩
theorem c_DrawNinesOf (w : World) (v : Value) (k : Nat) (hv : IsBy w w.heap.size v k) :
    Calls Try.prog 28 #[v] w (OneTab w) := by
  go_enter Try.func28, Try.ntmps28
  go_wp2_with fail
  refine (c_DrawTableValid _ _ _ hv).mono ?_
  rintro e w1 ⟨u, xs, rfl, hu, b⟩
  go_wp2
  go_ret
  exact ⟨_, xs, rfl, hu, b⟩
theorem c_DrawPutError (w : World) (v : Value) (k : Nat) (hv : IsBy w w.heap.size v k) :
    Calls Try.prog 38 #[v] w (TabInts w) := by
  go_enter Try.func38, Try.ntmps38
  go_wp2_with fail
  refine (c_l9Open _ _ _ hv).mono ?_
  rintro e w0 ⟨rfl, r, b, sz⟩
  clear hv
  go_wp2_with fail
  refine (c_l4Table _ _ _ _ (by omega) r).mono ?_
  clear r
  rintro e w1 ⟨g, cap, xs, d, rfl, ⟨⟨d0, d1⟩, x0, x1, -⟩, hg, hw, r, cc⟩
  have s1 := cc.size
  replace b := b.trans (cc.below (by omega) (by omega))
  clear cc
  go_wp2_with fail
  refine (c_pick _ _ _ _ _ (by omega) (by omega) r).mono ?_
  clear r
  rintro e w2 ⟨at1, rfl, at1q, r, c⟩
  have s2 := c.size
  obtain ⟨at10, at11⟩ := at1q.1 (by omega)
  clear at1q
  replace b := b.trans (c.below (by omega) (by omega))
  replace hw := hw.chg c (by omega)
  clear c
  go_wp2_with fail
  refine (c_pick _ _ _ _ _ (by omega) (by omega) r).mono ?_
  clear r
  rintro e w3 ⟨am, rfl, amq, r, c⟩
  have s3 := c.size
  obtain ⟨am0, am1⟩ := amq.1 (by omega)
  clear amq
  replace b := b.trans (c.below (by omega) (by omega))
  replace hw := hw.chg c (by omega)
  clear c
  go_wp2_with fail
  refine (c_pick _ _ _ _ _ (by omega) (by omega) r).mono ?_
  clear r
  rintro e w4 ⟨x, rfl, xq, r, c⟩
  have s4 := c.size
  obtain ⟨x0, x1⟩ := xq.1 (by omega)
  clear xq
  replace b := b.trans (c.below (by omega) (by omega))
  replace hw := hw.chg c (by omega)
  clear c
  rcases (by omega : x = 0 ∨ x = 1 ∨ 2 ≤ x) with h | h | h
  · subst h
    go_wp2_with fail
    refine (c_numLit _ _ _ _ _ [(-1), (xs.length : Int), 9223372036854775807] rfl (by intro x hx; simp at hx; omega) (by omega) (by simp) (by simp) _ rfl r).mono ?_
    clear r
    rintro e w5 ⟨y, rfl, yq, r, c⟩
    have s5 := c.size
    simp only [List.mem_cons, List.not_mem_nil, or_false] at yq
    replace b := b.trans (c.below (by omega) (by omega))
    replace hw := hw.chg c (by omega)
    clear c
    go_wp2_with fail
    refine (c_l2BadTable _ _ _ _ _ _ _ _ (by omega) (by omega) (by omega) ⟨by omega, by omega⟩ hw r).mono ?_
    clear r
    rintro e w9 ⟨g', off, cap', ys, rfl, hg', hw', r, c2⟩
    replace b := b.trans (c2.below (B := w.heap.size) (by omega) (by omega) (by omega))
    go_wp2
    go_ret3
    exact ⟨_, ys, _, _, rfl, ⟨by unfold I64; omega, by unfold I64; omega⟩, hw'.isI hw'.lt, b⟩
  · subst h
    go_wp2_with fail
    refine (c_numLit _ _ _ _ _ [1000000000, (-1000000000), 9223372036854775807] rfl (by intro x hx; simp at hx; omega) (by omega) (by simp) (by simp) _ rfl r).mono ?_
    clear r
    rintro e w6 ⟨y, rfl, yq, r, c⟩
    have s6 := c.size
    simp only [List.mem_cons, List.not_mem_nil, or_false] at yq
    replace b := b.trans (c.below (by omega) (by omega))
    replace hw := hw.chg c (by omega)
    clear c
    go_wp2_with fail
    refine (c_l2BadTable _ _ _ _ _ _ _ _ (by omega) (by omega) (by omega) ⟨by omega, by omega⟩ hw r).mono ?_
    clear r
    rintro e w9 ⟨g', off, cap', ys, rfl, hg', hw', r, c2⟩
    replace b := b.trans (c2.below (B := w.heap.size) (by omega) (by omega) (by omega))
    go_wp2
    go_ret3
    exact ⟨_, ys, _, _, rfl, ⟨by unfold I64; omega, by unfold I64; omega⟩, hw'.isI hw'.lt, b⟩
  · have t0 : (x == 0) = false := by simp; omega
    have t1 : (x == 1) = false := by simp; omega
    go_wp2_with fail
    refine (c_l2BadTable _ _ _ _ _ _ _ _ (by omega) (by omega) (by omega) ⟨by omega, by omega⟩ hw r).mono ?_
    clear r
    rintro e w9 ⟨g', off, cap', ys, rfl, hg', hw', r, c2⟩
    replace b := b.trans (c2.below (B := w.heap.size) (by omega) (by omega) (by omega))
    go_wp2
    go_ret3
    exact ⟨_, ys, _, _, rfl, ⟨by unfold I64; omega, by unfold I64; omega⟩, hw'.isI hw'.lt, b⟩
theorem c_DrawCleanTable (w : World) (v : Value) (k : Nat) (hv : IsBy w w.heap.size v k) :
    Calls Try.prog 44 #[v] w (TabInt w) := by
  go_enter Try.func44, Try.ntmps44
  go_wp2_with fail
  refine (c_l9Open _ _ _ hv).mono ?_
  rintro e w0 ⟨rfl, r, b, sz⟩
  clear hv
  go_wp2_with fail
  refine (c_l4Table _ _ _ _ (by omega) r).mono ?_
  clear r
  rintro e w1 ⟨g, cap, xs, d, rfl, ⟨⟨d0, d1⟩, x0, x1, -⟩, hg, hw, r, cc⟩
  have s1 := cc.size
  replace b := b.trans (cc.below (by omega) (by omega))
  clear cc
  go_wp2_with fail
  refine (c_pick _ _ _ _ _ (by omega) (by omega) r).mono ?_
  clear r
  rintro e w2 ⟨x, rfl, xq, r, c⟩
  have s2 := c.size
  obtain ⟨x0, x1⟩ := xq.1 (by omega)
  clear xq
  replace b := b.trans (c.below (by omega) (by omega))
  replace hw := hw.chg c (by omega)
  clear c
  by_cases h : x = 0
  · subst h
    go_wp2_with fail
    refine (c_pick _ _ _ _ _ (by omega) (by omega) r).mono ?_
    clear r
    rintro e w3 ⟨k1, rfl, k1q, r, c⟩
    have s3 := c.size
    obtain ⟨k10, k11⟩ := k1q.1 (by omega)
    clear k1q
    replace b := b.trans (c.below (by omega) (by omega))
    replace hw := hw.chg c (by omega)
    clear c
    obtain ⟨j, rfl⟩ : ∃ j : Nat, k1 = j := ⟨k1.toNat, by omega⟩
    go_wp2_with fail
    refine (c_pick _ _ _ _ _ (by omega) (by omega) r).mono ?_
    clear r
    rintro e w4 ⟨y, rfl, yq, r, c⟩
    have s4 := c.size
    obtain ⟨y0, y1⟩ := yq.1 (by omega)
    clear yq
    replace b := b.trans (c.below (by omega) (by omega))
    replace hw := hw.chg c (by omega)
    clear c
    have hj : j < xs.length := by omega
    have hc := hw.cell0 j hj
    have hf := hw.free j
    have hw2 := hw.set0 hj (x := y) (by omega)
    have HS' := hid (show xs.length = (xs.set j y).length by simp)
    replace r := r.setb (b := g) (by omega) (by omega) j (.int .i64 y)
    replace b := b.setCell (p := ⟨g, j, none⟩) (by show w.heap.size ≤ g; omega) (.int .i64 y)
    have bs := hw2.lt
    go_wp2_with fail
    rw [HS'.out]
    refine (c_l2BadTable _ _ _ _ _ _ _ _ (by omega) (by rw [← HS'.out]; omega) (by rw [← HS'.out]; omega) ⟨by omega, by omega⟩ hw2 r).mono ?_
    clear r
    rintro e w9 ⟨g', off, cap', ys, rfl, hg', hw', r, c2⟩
    have s9 := c2.size
    replace b := b.trans (c2.below (B := w.heap.size) (by omega) (by omega) (by omega))
    clear c2
    go_wp2_with fail
    refine (c_l4Off _ _ _ _ _ (by omega) (by omega) r).mono ?_
    clear r
    rintro e w8 ⟨z, rfl, ⟨z0, z1⟩, r, c⟩
    replace hw' := hw'.chg c (by omega)
    replace b := b.trans (c.below (by omega) (by omega))
    go_wp2
    go_ret2
    exact ⟨_, ys, _, rfl, by unfold I64; omega, hw'.isI hw'.lt, b⟩
  · have t0 : (x == 0) = false := by simp; omega
    go_wp2_with fail
    refine (c_l2BadTable _ _ _ _ _ _ _ _ (by omega) (by omega) (by omega) ⟨by omega, by omega⟩ hw r).mono ?_
    clear r
    rintro e w9 ⟨g', off, cap', ys, rfl, hg', hw', r, c2⟩
    have s9 := c2.size
    replace b := b.trans (c2.below (B := w.heap.size) (by omega) (by omega) (by omega))
    clear c2
    go_wp2_with fail
    refine (c_l4Off _ _ _ _ _ (by omega) (by omega) r).mono ?_
    clear r
    rintro e w8 ⟨z, rfl, ⟨z0, z1⟩, r, c⟩
    replace hw' := hw'.chg c (by omega)
    replace b := b.trans (c.below (by omega) (by omega))
    go_wp2
    go_ret2
    exact ⟨_, ys, _, rfl, by unfold I64; omega, hw'.isI hw'.lt, b⟩

set_option maxHeartbeats 400000 in
theorem c_DrawWrongNines (w : World) (v : Value) (k : Nat) (hv : IsBy w w.heap.size v k) :
    Calls Try.prog 23 #[v] w (TwoTabs w) := by
  go_enter Try.func23, Try.ntmps23
  go_wp2_with fail
  refine (c_l9Open _ _ _ hv).mono ?_
  rintro e w0 ⟨rfl, r, b, sz⟩
  clear hv
  go_wp2_with fail
  refine (c_l2Table _ _ _ _ (by omega) r).mono ?_
  clear r
  rintro e w1 ⟨g, cap, xs, rfl, ⟨⟨x0, x1⟩, xb⟩, hg, hw, r, cc⟩
  have s1 := cc.size
  replace b := b.trans (cc.below (by omega) (by omega))
  clear cc
  have XB := hid xb
  clear xb
  have hgl := hw.lt
  go_wp2_with fail
  refine (c_sNinesOf _ _ xs (hw.isI (by omega))).mono ?_
  rintro e w2 ⟨v2, rfl, r2, b2⟩
  have s2 := b2.size
  replace r := r.below b2 (by omega)
  replace b := b.trans (b2.mono (by omega))
  replace hw := hw.below b2 (by omega)
  clear b2
  have ho := r2.own
  have HR2 := hid r2.range
  have hl2 := restF_len (xs := xs) (m := 9)
  clear r2
  generalize restF xs 9 = ns at *
  go_wp2_with fail
  refine (c_pick _ _ _ _ _ (by omega) (by omega) r).mono ?_
  clear r
  rintro e w3 ⟨m, rfl, mq, r, c⟩
  have s3 := c.size
  obtain ⟨m0, m1⟩ := mq.1 (by omega)
  clear mq
  replace b := b.trans (c.below (by omega) (by omega))
  replace hw := hw.chg c (by omega)
  replace ho := ho.chg c (by omega)
  clear c
  go_wp2
  generalize hn : xs.length = n at *
  have HN := hid hn
  clear hn
  go_loopw [7, 8] (fun i kk wr => ∃ (j : Nat) (ys : List Int), i = .int .i64 j ∧ j ≤ 2 ∧ Hid (ys.length = n) ∧ Hid (Bd (BIG + (2 - j) * 30) ys) ∧ Wc wr g 0 cap ys ∧ OwnI wr w1.heap.size v2 ns ∧ Rd wr w.heap.size w.heap.size (70 - 2 * j) ∧ Below w.heap.size w wr ∧ w1.heap.size ≤ wr.heap.size) (fun i _ _ => (intOf i).toNat)
  case atStart => exact ⟨m.toNat, xs, by rw [show ((m.toNat : Nat) : Int) = m by omega], by omega, HN, (by show Bd _ xs; exact XB.out.mono (by have : BIG = 744862805260000000 := rfl; omega)), hw, ho, r.up (by omega), b, by omega⟩
  case round =>
    clear hw ho r b
    obtain ⟨j, ys, rfl, hj, HY, HB, hw, ho, r, b, hws⟩ := hrel
    have hgs := b.size
    have hbl := hw.lt
    by_cases hlt : 0 < j
    · have k0 : 0 < (j : Int) := by omega
      go_wp2_with fail
      refine (c_pick _ _ _ _ _ (by omega) (by omega) r).mono ?_
      clear r
      rintro e w4 ⟨kk, rfl, kkq, r, c⟩
      have s4 := c.size
      obtain ⟨kk0, kk1⟩ := kkq.1 (by omega)
      clear kkq
      replace b := b.trans (c.below (by omega) (by omega))
      replace hw := hw.chg c (by omega)
      replace ho := ho.chg c (by omega)
      clear c
      obtain ⟨q, rfl⟩ : ∃ q : Nat, kk = q := ⟨kk.toNat, by omega⟩
      have hq : q < ys.length := by rw [HY.out]; omega
      obtain ⟨y0, y1⟩ := HB.out q hq
      have hb0 : BIG = 744862805260000000 := rfl
      have z0 : -744862805260000060 ≤ el ys q := by omega
      have z1 : el ys q ≤ 744862805260000060 := by omega
      have hc := hw.cell0 q hq
      have hf := hw.free q
      have k1 : 0 ≤ (q : Int) := by omega
      clear hb0 y0 y1
      have kl : (q : Int) < n := by omega
      go_wp2_with fail
      go_region_with ((go_at_call 64; refine (c_pick _ w.heap.size w.heap.size _ 20 (by omega) (by omega) r.drew).mono ?_; rintro e w9 ⟨yy, rfl, yyq, r9, c9d⟩; have c9 := c9d.undrew; clear c9d; have s9 := c9.size; have hc9 := (hw.chg c9 (by omega)).cell0 q hq; have hf9 := (hw.chg c9 (by omega)).free q; obtain ⟨yy0, yy1⟩ := yyq.1 (by omega); clear yyq; have k5 : IntKind.i64.wrap (el ys q + yy) = el ys q + yy := IntWalk.i64_in _ (by omega); have k6 : IntKind.i64.wrap (el ys q + yy - 10) = el ys q + yy - 10 := IntWalk.i64_in _ (by omega)))
      all_goals
        have hw2 := (hw.chg c9 (by omega)).set0 hq (x := el ys q + yy - 10) (by omega)
        have r2 := (r9.setb (b := g) (by omega) (by omega) q (.int .i64 (el ys q + yy - 10))).up (show 70 - 2 * j + 1 + 1 ≤ 70 - 2 * (j - 1) by omega)
        have ho2 := ((ho.chg c9 (by omega)).chg (set_chg _ g q (.int .i64 (el ys q + yy - 10))) (by omega))
        have b2 := (b.trans (c9.below (by omega) (by omega))).setCell (p := ⟨g, q, none⟩) (by show w.heap.size ≤ g; omega) (.int .i64 (el ys q + yy - 10))
        have HB2 := hid ((HB.out.mono (c := BIG + (2 - ((j - 1 : Nat) : Int)) * 30) (by omega)).set (x := el ys q + yy - 10) (j := q) (by have hb0 : BIG = 744862805260000000 := rfl; have := HB.out q hq; omega))
        clear hw r9 ho b
        go_wp2
        go_roundw
        case rel => exact ⟨j - 1, ys.set q (el ys q + yy - 10), by rw [show ((j - 1 : Nat) : Int) = (j : Int) - 1 by omega], by omega, by show _ = _; simpa using HY.out, HB2, hw2, ho2, r2, b2, by simp [World.setCell]; omega⟩
        case measure => simp [intOf]; omega
    · have k0 : ¬ 0 < (j : Int) := by omega
      go_wp2_with fail
      refine (c_pick _ _ _ _ _ (by omega) (by omega) r).mono ?_
      clear r
      rintro e w5 ⟨z, rfl, zq, r, c⟩
      have s5 := c.size
      obtain ⟨z0, z1⟩ := zq.1 (by omega)
      clear zq
      replace b := b.trans (c.below (by omega) (by omega))
      replace hw := hw.chg c (by omega)
      replace ho := ho.chg c (by omega)
      clear c
      by_cases hz : z = 0
      · subst hz
        go_wp2_with (at_builtin; refine wpList_appI rfl _ _ _ rfl Try.underlying22 Try.infoInt w1.heap.size _ ns (by rfl) (by rfl) ho (by omega) (by omega) ?_; intro v5 w5 ho5 hb5)
        have s5 := hb5.size
        replace hw := hw.below hb5 (by omega)
        replace r := r.below hb5 (by omega)
        replace b := b.trans (hb5.mono (by omega))
        have HY' := hid HY.out.symm
        go_wp2_with fail
        rw [HY'.out]
        refine (c_l2BadTable _ _ _ _ _ _ _ _ (by omega) (by rw [HY.out]; omega) (by rw [HY.out]; omega) ⟨by omega, by omega⟩ hw r).mono ?_
        clear r
        rintro e w6 ⟨g', off, cap', zs, rfl, hg', hw', r, c2⟩
        have s6 := c2.size
        have hi := (ho5.ch2 c2 (by omega) (by omega)).isI (HR2.out.append (R64.one (x := 0) (by omega)))
        replace b := b.trans (c2.below (B := w.heap.size) (by omega) (by omega) (by omega))
        go_wp2
        go_ret2
        exact ⟨_, _, zs, _, rfl, hw'.isI hw'.lt, hi, b⟩
      · have t0 : (z == 0) = false := by simp; omega
        have HY' := hid HY.out.symm
        go_wp2_with fail
        rw [HY'.out]
        refine (c_l2BadTable _ _ _ _ _ _ _ _ (by omega) (by rw [HY.out]; omega) (by rw [HY.out]; omega) ⟨by omega, by omega⟩ hw r).mono ?_
        clear r
        rintro e w6 ⟨g', off, cap', zs, rfl, hg', hw', r, c2⟩
        have s6 := c2.size
        have hi := (ho.ch2 c2 (by omega) (by omega)).isI HR2.out
        replace b := b.trans (c2.below (B := w.heap.size) (by omega) (by omega) (by omega))
        go_wp2
        go_ret2
        exact ⟨_, _, zs, _, rfl, hw'.isI hw'.lt, hi, b⟩
end Go.Proofs.Ytefdnkhmgefdaaa
