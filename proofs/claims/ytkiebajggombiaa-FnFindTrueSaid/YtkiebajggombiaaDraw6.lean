/- What is proved here: the contract of DrawFindError. -/
import Derived.Test.YtkiebajggombiaaDraw3
set_option linter.unusedVariables false
set_option linter.unusedSimpArgs false
namespace Go.Proofs.Ytkiebajggombiaa
open Go.RowKit

set_option maxHeartbeats 1600000 in
theorem c_DrawFindError (w : World) (v : Value) (k : Nat) (hv : IsBy w w.heap.size v k) :
    Calls Try.prog 36 #[v] w (TabInt w) := by
  go_enter Try.func36, Try.ntmps36
  go_wp2_with fail
  refine (c_l9Open _ _ _ hv).mono ?_
  rintro e w0 ⟨rfl, r, b, sz⟩
  clear hv
  go_wp2_with fail
  refine (c_l4Table _ _ _ _ (by omega) r).mono ?_
  clear r
  rintro e wt ⟨g, cap, xs, d, rfl, ⟨⟨d0, d1⟩, x0, x1, xb⟩, hg, hw, r, cc⟩
  have s1 := cc.size
  have hgl := hw.lt
  replace b := b.trans (cc.below (by omega) (by omega))
  clear cc
  have XB := hid xb
  clear xb
  go_wp2_with fail
  refine (c_numLit _ _ _ _ _ [1, 1, 1, 0, 2] rfl (by intro x hx; simp at hx; omega) (by omega) (by simp) (by simp) _ rfl r).mono ?_
  clear r
  rintro e w2 ⟨m, rfl, mq, r, c⟩
  have s2 := c.size
  simp only [List.mem_cons, List.not_mem_nil, or_false] at mq
  replace b := b.trans (c.below (by omega) (by omega))
  replace hw := hw.chg c (by omega)
  clear c
  have hm02 : 0 ≤ m ∧ m ≤ 2 := by omega
  obtain ⟨m0, m1⟩ := hm02
  clear mq
  generalize hn : xs.length = n at *
  have HN := hid hn
  clear hn
  go_wp2
  go_loopw [7, 8] (fun i kk wr => ∃ (j : Nat) (ys : List Int), i = .int .i64 j ∧ j ≤ 2 ∧ Hid (ys.length = n) ∧ Hid (Bd (BIG + (2 - j) * 30) ys) ∧ Wc wr g 0 cap ys ∧ Rd wr w.heap.size w.heap.size (70 - 2 * j) ∧ Below w.heap.size w wr ∧ wt.heap.size ≤ wr.heap.size) (fun i _ _ => (intOf i).toNat)
  case atStart => exact ⟨m.toNat, xs, by rw [show ((m.toNat : Nat) : Int) = m by omega], by omega, HN, (by show Bd _ xs; exact XB.out.mono (by have : BIG = 744862805260000000 := rfl; omega)), hw, r.up (by omega), b, by omega⟩
  case round =>
    clear hw r b
    obtain ⟨j, ys, rfl, hj, HY, HB, hw, r, b, hws⟩ := hrel
    have hgs := b.size
    have hbl := hw.lt
    by_cases hlt : 0 < j
    · have k0 : 0 < (j : Int) := by omega
      go_wp2_with fail
      refine (c_pick _ _ _ _ _ (by omega) (by omega) r).mono ?_
      clear r
      rintro e w3 ⟨kk, rfl, kkq, r, c⟩
      have s3 := c.size
      obtain ⟨kk0, kk1⟩ := kkq.1 (by omega)
      clear kkq
      replace b := b.trans (c.below (by omega) (by omega))
      replace hw := hw.chg c (by omega)
      clear c
      obtain ⟨q, rfl⟩ : ∃ q : Nat, kk = q := ⟨kk.toNat, by omega⟩
      have hq : q < ys.length := by rw [HY.out]; omega
      obtain ⟨y0, y1⟩ := HB.out q hq
      have hb0 : BIG = 744862805260000000 := rfl
      have z0 : -744862805260000060 ≤ el ys q := by omega
      have z1 : el ys q ≤ 744862805260000060 := by omega
      have hc := hw.cell0 q hq
      have hf := hw.free q
      have k1 : 0 ≤ (q : Int) := by omega
      clear hb0 y0 y1
      have kl : (q : Int) < n := by omega
      go_wp2_with fail
      go_region_with ((go_at_call 57; refine (c_pick _ w.heap.size w.heap.size _ 20 (by omega) (by omega) r.drew).mono ?_; rintro e w9 ⟨yy, rfl, yyq, r9, c9d⟩; have c9 := c9d.undrew; clear c9d; have s9 := c9.size; have hc9 := (hw.chg c9 (by omega)).cell0 q hq; have hf9 := (hw.chg c9 (by omega)).free q; obtain ⟨yy0, yy1⟩ := yyq.1 (by omega); clear yyq; have k5 : IntKind.i64.wrap (el ys q + yy) = el ys q + yy := IntWalk.i64_in _ (by omega); have k6 : IntKind.i64.wrap (el ys q + yy - 10) = el ys q + yy - 10 := IntWalk.i64_in _ (by omega)))
      all_goals
        have hw2 := (hw.chg c9 (by omega)).set0 hq (x := el ys q + yy - 10) (by omega)
        have r2 := (r9.setb (b := g) (by omega) (by omega) q (.int .i64 (el ys q + yy - 10))).up (show 70 - 2 * j + 1 + 1 ≤ 70 - 2 * (j - 1) by omega)
        have b2 := (b.trans (c9.below (by omega) (by omega))).setCell (p := ⟨g, q, none⟩) (by show w.heap.size ≤ g; omega) (.int .i64 (el ys q + yy - 10))
        have HB2 := hid ((HB.out.mono (c := BIG + (2 - ((j - 1 : Nat) : Int)) * 30) (by omega)).set (x := el ys q + yy - 10) (j := q) (by have hb0 : BIG = 744862805260000000 := rfl; have := HB.out q hq; omega))
        clear hw r9 b
        go_wp2
        go_roundw
        case rel => exact ⟨j - 1, ys.set q (el ys q + yy - 10), by rw [show ((j - 1 : Nat) : Int) = (j : Int) - 1 by omega], by omega, by show _ = _; simpa using HY.out, HB2, hw2, r2, b2, by simp [World.setCell]; omega⟩
        case measure => simp [intOf]; omega
    · have k0 : ¬ 0 < (j : Int) := by omega
      go_wp2_with fail
      refine (c_pick _ _ _ _ _ (by omega) (by omega) r).mono ?_
      clear r
      rintro e w4 ⟨z, rfl, zq, r, c⟩
      have s4 := c.size
      obtain ⟨z0, z1⟩ := zq.1 (by omega)
      clear zq
      replace b := b.trans (c.below (by omega) (by omega))
      replace hw := hw.chg c (by omega)
      clear c
      by_cases hz : z = 0
      · subst hz
        go_wp2_with fail
        refine (c_pick _ _ _ _ _ (by omega) (by omega) r).mono ?_
        clear r
        rintro e w5 ⟨y, rfl, yq, r, c⟩
        have s5 := c.size
        obtain ⟨y0, y1⟩ := yq.1 (by omega)
        clear yq
        replace b := b.trans (c.below (by omega) (by omega))
        replace hw := hw.chg c (by omega)
        clear c
        obtain ⟨yn, rfl⟩ : ∃ yn : Nat, y = yn := ⟨y.toNat, by omega⟩
        have hl := hw.len
        have k2 : (n : Int) - yn ≤ cap := by have := HY.out; omega
        have k3 : 0 ≤ (n : Int) - yn := by omega
        have k4 : ((n : Int) - yn).toNat = n - yn := by omega
        have k5 : (yn : Int) ≤ n := by omega
        have hwt := hw.take (n - yn)
        have HTL := hid (show n - yn = (ys.take (n - yn)).length by rw [List.length_take, HY.out]; omega)
        go_wp2_with fail
        rw [HTL.out]
        refine (c_l2BadTable _ _ _ _ _ _ _ _ (by omega) (by rw [← HTL.out]; omega) (by rw [← HTL.out]; omega) ⟨by omega, by omega⟩ hwt r).mono ?_
        clear r
        rintro e w6 ⟨g', off, cap', zs, rfl, hg', hw', r, c2⟩
        have s6 := c2.size
        replace b := b.trans (c2.below (B := w.heap.size) (by omega) (by omega) (by omega))
        clear c2
        go_wp2_with fail
        refine (c_l4Off _ _ _ _ _ (by omega) (by omega) r).mono ?_
        clear r
        rintro e w8 ⟨zz, rfl, ⟨zz0, zz1⟩, r, c⟩
        replace hw' := hw'.chg c (by omega)
        replace b := b.trans (c.below (by omega) (by omega))
        go_wp2
        go_ret2
        exact ⟨_, zs, _, rfl, by unfold I64; omega, hw'.isI hw'.lt, b⟩
      · have t0 : (z == 0) = false := by simp; omega
        have HY' := hid HY.out.symm
        go_wp2_with fail
        rw [HY'.out]
        refine (c_l2BadTable _ _ _ _ _ _ _ _ (by omega) (by rw [HY.out]; omega) (by rw [HY.out]; omega) ⟨by omega, by omega⟩ hw r).mono ?_
        clear r
        rintro e w6 ⟨g', off, cap', zs, rfl, hg', hw', r, c2⟩
        have s6 := c2.size
        replace b := b.trans (c2.below (B := w.heap.size) (by omega) (by omega) (by omega))
        clear c2
        go_wp2_with fail
        refine (c_l4Off _ _ _ _ _ (by omega) (by omega) r).mono ?_
        clear r
        rintro e w8 ⟨zz, rfl, ⟨zz0, zz1⟩, r, c⟩
        replace hw' := hw'.chg c (by omega)
        replace b := b.trans (c.below (by omega) (by omega))
        go_wp2
        go_ret2
        exact ⟨_, zs, _, rfl, by unfold I64; omega, hw'.isI hw'.lt, b⟩
end Go.Proofs.Ytkiebajggombiaa
