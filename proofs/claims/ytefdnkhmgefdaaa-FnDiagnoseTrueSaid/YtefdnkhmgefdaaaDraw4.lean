/- What is proved here: contracts of DrawDiagnoseSlip and DrawErrataOf. -/
import Derived.Test.YtefdnkhmgefdaaaDraw3
set_option linter.unusedVariables false
set_option linter.unusedSimpArgs false
namespace Go.Proofs.Ytefdnkhmgefdaaa
open Go.RowKit

theorem Chg.drew {lo hi : Nat} {w w' : World} (h : Chg lo hi w w') : Chg lo hi w w'.drew := ⟨h.os, h.tape, h.output, h.size, h.block⟩
theorem slipF_len2 {c t a : Int} {n : Nat} : (slipF c t a n).length ≤ n := by
  by_cases h : slipOk c t a n = true
  · rw [slipF_ok h]; simp
  · rw [slipF_no (by simpa using h)]; simp
theorem slipF_bd2 {c t a : Int} {n : Nat} (hn : n ≤ 60) : ∀ k, k < (slipF c t a n).length → -1000000000000000000 ≤ el (slipF c t a n) k ∧ el (slipF c t a n) k ≤ 1000000000000000000 := by
  intro k hk
  by_cases h : slipOk c t a n = true
  · have h' := h
    simp only [slipOk, Bool.and_eq_true, inB_iff, slipB_iff] at h'
    have hkn : k < n := by have := slipF_len2 (c := c) (t := t) (a := a) (n := n); omega
    rw [slipF_el h (by omega)]
    exact effF_bd (by omega) (by omega) (by omega) (by omega)
  · rw [slipF_no (by simpa using h)] at hk; simp at hk
set_option maxHeartbeats 800000 in
theorem c_DrawDiagnoseSlip (w : World) (v : Value) (k : Nat) (hv : IsBy w w.heap.size v k) :
    Calls Try.prog 55 #[v] w (TwoTabs w) := by
  go_enter Try.func55, Try.ntmps55
  go_wp2_with fail
  refine (c_l9Open _ _ _ hv).mono ?_
  rintro e w0 ⟨rfl, r, b, sz⟩
  clear hv
  go_wp2_with fail
  refine (c_l4Table _ _ _ _ (by omega) r).mono ?_
  clear r
  rintro e w1 ⟨g, cap, xs, d, rfl, ⟨⟨d0, d1⟩, x0, x1, xb⟩, hg, hw, r, cc⟩
  have s1 := cc.size
  have hgl := hw.lt
  replace b := b.trans (cc.below (by omega) (by omega))
  clear cc
  have XB := hid xb
  clear xb
  go_wp2_with fail
  refine (c_l4Turn _ _ _ _ (by omega) r).mono ?_
  clear r
  rintro e w2 ⟨co, tu, am, rfl, ⟨-, -, -⟩, r, c⟩
  have s2 := c.size
  replace hw := hw.chg c (by omega)
  replace b := b.trans (c.below (by omega) (by omega))
  clear c
  go_wp2_with fail
  refine (c_sSlipEffect _ co tu am xs.length).mono ?_
  rintro e w3 ⟨v3, rfl, r3, c⟩
  have s3 := c.size
  replace r := r.below c (by omega)
  replace b := b.trans (c.mono (by omega))
  replace hw := hw.below c (by omega)
  clear c
  have hl3 := slipF_len (c := co) (t := tu) (a := am) (cnt := xs.length)
  have hl4 := slipF_len2 (c := co) (t := tu) (a := am) (n := xs.length)
  have HER := hid (slipF_bd2 (c := co) (t := tu) (a := am) (n := xs.length) (by omega))
  have he3 := r3.isI
  clear r3
  generalize slipF co tu am xs.length = es at *
  have hx1 := (hw.isI (hi := w1.heap.size) hgl).alloc (.cells #[] 3) (by omega)
  go_wp2_with (at_builtin; refine wpList_appIs rfl _ _ _ rfl Try.underlying22 Try.infoInt w3.heap.size (.slice (some ⟨w3.heap.size, 0, none⟩) 0 0) [] (by rfl) (OwnI.empty w3 (Nat.le_refl _) rfl) _ _ xs hx1 (by rfl) (by simp; omega) (by simp) ?_; intro v4 w4 ho4 b4; obtain ⟨g4, cap4, hv4, hg4, hl5, hw4⟩ := ho4.wc (by simp; omega) hw.range; rw [hv4] at ho4 ⊢; clear hv4)
  simp only [List.nil_append] at ho4 hw4 ⊢
  have s4 : w3.heap.size ≤ w4.heap.size := by have := b4.size; simp at this; omega
  have b5 := (RetRow.e1 w3 (.cells #[] 3)).trans b4
  clear b4 ho4 hx1
  replace r := r.below b5 (by omega)
  replace b := b.trans (b5.mono (by omega))
  replace hw := hw.below b5 (by omega)
  replace he3 := he3.below b5 (by omega)
  clear b5
  have BB := hid (show Bd BIG xs from XB.out)
  obtain ⟨a3, cap3, rfl, hm3, -, hc3⟩ := he3
  unfold maxLen at hm3
  generalize hn : xs.length = n at *
  have HN := hid hn
  clear hn
  go_loopw [13] (fun i wr => ∃ (j : Nat) (ys : List Int), j ≤ es.length ∧ i = .int .i64 j ∧ Hid (ys.length = n) ∧ Hid (∀ k, j ≤ k → k < n → -744862805260000000 ≤ el ys k ∧ el ys k ≤ 744862805260000000) ∧ Wc wr g4 0 cap4 ys ∧ Hid (Chg w3.heap.size w4.heap.size w4 wr)) (fun i _ => es.length - (intOf i).toNat)
  case atStart => exact ⟨0, xs, Nat.zero_le _, rfl, HN, fun k _ hk => XB.out k (by rw [HN.out]; exact hk), hw4, Chg.refl _ _ _⟩
  case round =>
    obtain ⟨j, ys, hj, rfl, HY, HBD, hw5, HC⟩ := hrel
    have hbl := hw5.lt
    have hcs := HC.out.size
    by_cases hlt : j < es.length
    · obtain ⟨b3, o3, rfl, hb3, hcell3⟩ := hc3 j hlt
      have e0 := hcell3 j hlt
      have e1 : wr.cell? ⟨b3, o3 + j, none⟩ = some (.int .i64 (el es j)) := (World.cell?_of_block (w := w4) (a := ⟨b3, o3 + j, none⟩) (HC.out.block b3 (by omega) (by omega))).trans e0
      have hjy : j < ys.length := by rw [HY.out]; omega
      have c0 := hw5.cell0 j hjy
      have f0 := hw5.free j
      obtain ⟨y0, y1⟩ := HBD.out j (Nat.le_refl _) (by omega)
      obtain ⟨z0, z1⟩ := HER.out j hlt
      have q0 : 0 ≤ (j : Int) := by omega
      have q1 : (j : Int) < n := by omega
      have q2 : (j : Int) < es.length := by omega
      have k1 : IntKind.i64.wrap (el ys j + el es j) = el ys j + el es j := IntWalk.i64_in _ (by omega)
      have hw6 := hw5.set0 hjy (x := el ys j + el es j) (by omega)
      clear hc3 hcell3 e0 hw5
      go_wp2_with fail
      go_region
      go_wp2
      go_roundw
      case rel => exact ⟨j + 1, ys.set j (el ys j + el es j), by omega, by go_num, by show _ = _; simpa using HY.out, fun k hk hk2 => by rw [el_set_other (by omega)]; exact HBD.out k (by omega) hk2, hw6, (HC.out.setCell (p := ⟨g4, j, none⟩) hg4 hl5 _).drew⟩
      case measure => simp [intOf]; omega
    · clear hc3
      have c5 := HC.out
      replace r := r.chg c5 (by omega) (by omega)
      replace hw := hw.chg c5 (by omega)
      replace b := b.trans (c5.below (by omega) (by omega))
      clear c5 HC hw4
      go_wp2_with fail
      refine (c_pick _ _ _ _ _ (by omega) (by omega) r).mono ?_
      clear r
      rintro e w4 ⟨x, rfl, xq, r, c⟩
      have s4 := c.size
      obtain ⟨x0, x1⟩ := xq.1 (by omega)
      clear xq
      replace b := b.trans (c.below (by omega) (by omega))
      replace hw := hw.chg c (by omega)
      replace hw5 := hw5.chg c (by omega)
      clear c
      have hyl : 1 ≤ ys.length ∧ ys.length ≤ 1000 := by rw [HY.out]; omega
      rcases (by omega : x = 0 ∨ x = 1 ∨ 2 ≤ x) with h | h | h
      · subst h
        go_wp2_with fail
        refine (c_pick _ _ _ _ _ (by omega) (by omega) r).mono ?_
        clear r
        rintro e w5 ⟨k1, rfl, k1q, r, c⟩
        have s5 := c.size
        obtain ⟨k10, k11⟩ := k1q.1 (by omega)
        clear k1q
        replace b := b.trans (c.below (by omega) (by omega))
        replace hw := hw.chg c (by omega)
        replace hw5 := hw5.chg c (by omega)
        clear c
        obtain ⟨q, rfl⟩ : ∃ q : Nat, k1 = q := ⟨k1.toNat, by omega⟩
        go_wp2_with fail
        refine (c_pick _ _ _ _ _ (by omega) (by omega) r).mono ?_
        clear r
        rintro e w6 ⟨y, rfl, yq, r, c⟩
        have s6 := c.size
        obtain ⟨y0, y1⟩ := yq.1 (by omega)
        clear yq
        replace b := b.trans (c.below (by omega) (by omega))
        replace hw := hw.chg c (by omega)
        replace hw5 := hw5.chg c (by omega)
        clear c
        have hq : q < ys.length := by rw [HY.out]; omega
        have hc := hw5.cell0 q hq
        have hf := hw5.free q
        have hw6 := hw5.set0 hq (x := y) (by omega)
        have HS' := hid (show n = (ys.set q y).length by simp; exact HY.out.symm)
        replace r := r.setb (b := g4) (by omega) (by omega) q (.int .i64 y)
        replace b := b.setCell (p := ⟨g4, q, none⟩) (by show w.heap.size ≤ g4; omega) (.int .i64 y)
        replace hw := hw.chg (set_chg _ g4 q (.int .i64 y)) (by omega)
        have bs := hw6.lt
        go_wp2_with fail
        rw [HS'.out]
        refine (c_l2BadTable _ _ _ _ _ _ _ _ (by omega) (by simp; omega) (by simp; omega) ⟨by omega, by omega⟩ hw6 r).mono ?_
        clear r
        rintro e w9 ⟨g', off, cap', zs, rfl, hg', hw', r, c2⟩
        have hi := (hw.isI (hi := g + 1) (Nat.lt_succ_self _)).ch2 c2 (by omega) (by omega) (by have := hw.lt; omega)
        have s9 := c2.size
        have hgl9 := hw.lt
        replace b := b.trans (c2.below (B := w.heap.size) (by omega) (by omega) (by omega))
        rw [HN.out] at hi
        go_wp2
        go_ret2
        exact ⟨_, _, xs, zs, rfl, by (first | exact hi.up (by omega) | (rw [← HY.out] at hi; exact hi.up (by omega)) | (rw [HS'.out] at hi; exact hi.up (by omega))), hw'.isI hw'.lt, b⟩
      · subst h
        have hcap := hw5.len
        have hn3 : 3 ≤ n := by omega
        have k1 : 1 ≤ n := by omega
        have k2 : (1 : Int) ≤ n := by omega
        have k3 : (n : Int) ≤ cap4 := by have := HY.out; omega
        have hncap : ¬ cap4 = 1 := by have := HY.out; omega
        have hw6 := hw5.drop (n := 1) (by rw [HY.out]; omega)
        have HD := hid (show n - 1 = (ys.drop 1).length by simp [HY.out])
        go_wp2_with fail
        rw [HD.out]
        refine (c_l2BadTable _ _ _ _ _ _ _ _ (by omega) (by rw [← HD.out]; omega) (by rw [← HD.out]; omega) ⟨by omega, by omega⟩ hw6 r).mono ?_
        clear r
        rintro e w9 ⟨g', off, cap', zs, rfl, hg', hw', r, c2⟩
        have hi := (hw.isI (hi := g + 1) (Nat.lt_succ_self _)).ch2 c2 (by omega) (by omega) (by have := hw.lt; omega)
        have s9 := c2.size
        have hgl9 := hw.lt
        replace b := b.trans (c2.below (B := w.heap.size) (by omega) (by omega) (by omega))
        rw [HN.out] at hi
        go_wp2
        go_ret2
        exact ⟨_, _, xs, zs, rfl, by (first | exact hi.up (by omega) | (rw [← HY.out] at hi; exact hi.up (by omega)) | (rw [HS'.out] at hi; exact hi.up (by omega))), hw'.isI hw'.lt, b⟩
      · have t0 : (x == 0) = false := by simp; omega
        have t1 : (x == 1) = false := by simp; omega
        go_wp2_with fail
        rw [← HY.out]
        refine (c_l2BadTable _ _ _ _ _ _ _ _ (by omega) (by omega) (by omega) ⟨by omega, by omega⟩ hw5 r).mono ?_
        clear r
        rintro e w9 ⟨g', off, cap', zs, rfl, hg', hw', r, c2⟩
        have hi := (hw.isI (hi := g + 1) (Nat.lt_succ_self _)).ch2 c2 (by omega) (by omega) (by have := hw.lt; omega)
        have s9 := c2.size
        have hgl9 := hw.lt
        replace b := b.trans (c2.below (B := w.heap.size) (by omega) (by omega) (by omega))
        rw [HN.out] at hi
        go_wp2
        go_ret2
        exact ⟨_, _, xs, zs, rfl, by (first | exact hi.up (by omega) | (rw [← HY.out] at hi; exact hi.up (by omega)) | (rw [HS'.out] at hi; exact hi.up (by omega))), hw'.isI hw'.lt, b⟩
theorem c_DrawErrataOf (w : World) (v : Value) (k : Nat) (hv : IsBy w w.heap.size v k) :
    Calls Try.prog 53 #[v] w (TwoTabs w) := by
  go_enter Try.func53, Try.ntmps53
  go_wp2_with fail
  refine (c_DrawDiagnoseSlip _ _ _ hv).mono ?_
  rintro e w1 ⟨v1, v2, xs, ys, rfl, h1, h2, b⟩
  go_wp2
  go_ret2
  exact ⟨_, _, xs, ys, rfl, h1, h2, b⟩
end Go.Proofs.Ytefdnkhmgefdaaa
