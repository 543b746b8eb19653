/- What is proved here: contracts of l5Best and FewestSegments (spec and impl). -/
import Derived.Test.YtkiebajggombiaaBstM
import Derived.Test.YtkiebajggombiaaRun
import Derived.Test.YtkiebajggombiaaDraw2
set_option linter.unusedVariables false
set_option linter.unusedSimpArgs false
namespace Go.Proofs.Ytkiebajggombiaa
open Go.RowKit

theorem drop_set_low {xs : List Int} {p q : Nat} {x : Int} (h : p < q) : (xs.set p x).drop q = xs.drop q := by
  rw [List.drop_set, if_pos h]
theorem el_of_drop {xs ys : List Int} {q : Nat} (h : xs.drop q = ys) (t : Nat) : el xs (q + t) = el ys t := by rw [← h, el_drop]
theorem drop_step {xs ys : List Int} {p : Nat} (hp : p < xs.length) (h : xs.drop (p + 1) = ys) : xs.drop p = el xs p :: ys := by
  rw [List.drop_eq_getElem_cons hp, h]
  congr 1
  simp [el, List.getD_eq_getElem?_getD, List.getElem?_eq_getElem hp]
theorem Wc.drewF {w : World} {g off cap : Nat} {xs : List Int} (h : Wc w g off cap xs) : Wc w.drew g off cap xs := h
set_option maxRecDepth 100000 in
set_option maxHeartbeats 1600000 in
theorem c_l5Best (w : World) (v : Value) (xs : List Int) (hv : IsI w w.heap.size v xs) (d s c : Int) (hl : 1 ≤ xs.length ∧ xs.length ≤ 60) (hs : 0 ≤ s ∧ s ≤ 1000) (hcc : 0 ≤ c ∧ c ≤ 1000) :
    Calls Try.prog 47 #[v, .int .i64 d, .int .i64 s, .int .i64 c] w fun e w' => e = .returned (.slice (some ⟨w.heap.size, 0, none⟩) (xs.length + 1) (xs.length + 1)) ∧ Wc w' w.heap.size 0 (xs.length + 1) (bst xs d s c xs.length) ∧ Below w.heap.size w w' := by
  have hv0 := hv
  obtain ⟨a, cap, rfl, hm, -, hc⟩ := hv
  unfold maxLen at hm
  obtain ⟨b, off, rfl, hb, -⟩ := hc 0 (by omega)
  clear hc
  obtain ⟨l1, l60⟩ := hl
  obtain ⟨s0, s1⟩ := hs
  obtain ⟨c0, c1⟩ := hcc
  have HBD := hid (bst_bd (xs := xs) (d := d) s0 c0)
  have HM := hid (made_zero (xs.length + 1))
  have hmk := mk_ints Try.underlying23 Try.infoInt (xs.length + 1) (by omega)
  generalize madeCells #[Value.int .i64 0] (xs.length + 1) = mc at *
  have hmk' : ∀ (W : World), (Instr.makeSlice 23 (.int .i64 ((xs.length : Int) + 1)) (.int .i64 ((xs.length : Int) + 1))).run Try.prog W = .ok (.slice (some ⟨W.heap.size, 0, none⟩) (xs.length + 1) (xs.length + 1)) (W.alloc (.cells mc 3)) := by
    intro W
    rw [show (xs.length : Int) + 1 = ((xs.length + 1 : Nat) : Int) by omega]; exact hmk W
  have hw0 : Wc (w.alloc (.cells mc 3)) w.heap.size 0 (xs.length + 1) (List.replicate (xs.length + 1) 0) := by
    have := (Blk.new (w := w) HM.out).wc (by simp; unfold maxLen; omega) (R64.of_el fun k hk => by simp at hk; simp [el, List.getElem?_replicate, hk])
    simpa using this
  have b0 : Below w.heap.size w (w.alloc (.cells mc 3)) := RetRow.e1 _ _
  clear hmk
  go_enter Try.func47, Try.ntmps47
  go_wp2
  go_loopw [10] (fun i wr => ∃ (z : Int) (m : Nat) (zs : List Int), i = .int .i64 z ∧ z = (m : Int) - 1 ∧ m ≤ xs.length ∧ Hid (zs.length = xs.length + 1) ∧ Hid (zs.drop m = bst xs d s c (xs.length - m)) ∧ Wc wr w.heap.size 0 (xs.length + 1) zs ∧ Below w.heap.size w wr) (fun i _ => (intOf i + 1).toNat)
  case atStart => exact ⟨_, xs.length, List.replicate (xs.length + 1) 0, rfl, rfl, Nat.le_refl _, by show _ = _; simp, by show _ = _; rw [Nat.sub_self, List.drop_replicate, show xs.length + 1 - xs.length = 1 by omega]; rfl, hw0, b0⟩
  case round =>
    clear hw0 b0 hmk'
    obtain ⟨z, m, zs, rfl, hz, hm2, HZ, HD, hw, hbel⟩ := hrel
    have hbs := hbel.size
    by_cases hp : 0 < m
    · obtain ⟨p, rfl⟩ : ∃ p, m = p + 1 := ⟨m - 1, by omega⟩
      obtain rfl : z = (p : Int) := by omega
      have hpz : p < zs.length := by rw [HZ.out]; omega
      have g0 := hw.cell0 p hpz
      have f0 := hw.free p
      have k0 : (0 : Int) ≤ (p : Int) := by omega
      have k1 : (p : Int) < (xs.length : Int) + 1 := by omega
      have k2 : p < xs.length + 1 := by omega
      have hw2 := hw.set0 hpz (x := 1099511627776) (by omega)
      have HZ2 := hid (show (zs.set p 1099511627776).length = xs.length + 1 by simp; exact HZ.out)
      have HD2 := hid (show (zs.set p 1099511627776).drop (p + 1) = bst xs d s c (xs.length - (p + 1)) by rw [drop_set_low (by omega)]; exact HD.out)
      have HE2 := hid (show el (zs.set p 1099511627776) p = 1099511627776 from el_set_same hpz)
      have hbel2 := hbel.setCell (p := ⟨w.heap.size, p, none⟩) (Nat.le_refl _) (.int .i64 1099511627776)
      have HR := hid (show bst xs d s c (xs.length - p) = bIn (xs.drop p) d s c (bst xs d s c (xs.length - (p + 1))) 1099511627776 1 (xs.length - p) :: bst xs d s c (xs.length - (p + 1)) by
        rw [show xs.length - p = (xs.length - (p + 1)) + 1 by omega, bst, show xs.length - (xs.length - (p + 1) + 1) = p by omega])
      obtain ⟨R, hR⟩ : ∃ R, bIn (xs.drop p) d s c (bst xs d s c (xs.length - (p + 1))) 1099511627776 1 (xs.length - p) = R := ⟨_, rfl⟩
      rw [hR] at HR
      have HRR := hid hR
      clear hR hz hp
      go_wp2
      go_loopw [11] (fun i wr => ∃ (t : Nat) (zs : List Int), 1 ≤ t ∧ p + t ≤ xs.length + 1 ∧ i = .int .i64 t ∧ Hid (zs.length = xs.length + 1) ∧ Hid (zs.drop (p + 1) = bst xs d s c (xs.length - (p + 1))) ∧ Hid (0 ≤ el zs p ∧ el zs p ≤ 1099511627776) ∧ Hid (bIn (xs.drop p) d s c (bst xs d s c (xs.length - (p + 1))) (el zs p) t (xs.length - p + 1 - t) = R) ∧ Wc wr w.heap.size 0 (xs.length + 1) zs ∧ Below w.heap.size w wr) (fun i _ => (xs.length + 1) - (intOf i).toNat)
      case atStart => exact ⟨1, _, Nat.le_refl _, by omega, rfl, HZ2, HD2, by show _ ∧ _; rw [HE2.out]; omega, by show _ = _; rw [HE2.out, Nat.add_sub_cancel]; exact HRR.out, hw2, hbel2⟩
      case round =>
        clear hw hw2 hbel hbel2 hbs g0 f0 HZ HD HZ2 HD2 HE2 HRR
        obtain ⟨t, ys, ht1, ht2, rfl, HY, HDY, HAB, HRR, hw, hbel⟩ := hrel
        have hbs := hbel.size
        have hpy : p < ys.length := by rw [HY.out]; omega
        by_cases hlt : p + t ≤ xs.length
        · have k3 : (p : Int) + t ≤ xs.length := by omega
          have k4 : (p : Int) + t ≤ cap := by omega
          have k5 : (p : Int) < cap := by omega
          have k6 : ¬ cap = p := by omega
          have hsub := (((hv0.below hbel (Nat.le_refl _)).sub (lo := p) (m := t) hlt)).up hbs
          have HST := hid (show xs.length - p + 1 - t = (xs.length - p + 1 - (t + 1)) + 1 by omega)
          go_wp2_with fail
          refine (c_l5Run _ _ _ hsub d).mono ?_
          by_cases hr : rnOk ((xs.drop p).take t) d = true
          · have HU := hid (fun a => bIn_yes (s := s) (c := c) (B := bst xs d s c (xs.length - (p + 1))) (a := a) (m := xs.length - p + 1 - (t + 1)) hr)
            have hL := rnL_len (ys := (xs.drop p).take t) (d := d)
            rw [hr]
            rintro e w1 ⟨v1, rfl, r1, b1⟩
            have hi1 := r1.isI
            clear hr r1
            generalize rnL ((xs.drop p).take t) d = ps at *
            obtain ⟨a1, cap1, rfl, hm1, -, -⟩ := hi1
            obtain ⟨L, hLL⟩ : ∃ L, ps.length = L := ⟨_, rfl⟩
            rw [hLL] at HU hL ⊢
            clear hm1 hLL
            replace hw := hw.below b1 hw.lt
            replace hbel := hbel.trans (b1.mono hbs)
            have g0 := hw.cell0 p hpy
            have g1 := hw.cell0 (p + t) (by rw [HY.out]; omega)
            have f0 := hw.free p
            have HEB := hid (show el ys (p + t) = el (bst xs d s c (xs.length - (p + 1))) (t - 1) by
              have := el_of_drop HDY.out (t - 1)
              rwa [show p + 1 + (t - 1) = p + t by omega] at this)
            have e0 : 0 ≤ el ys (p + t) ∧ el ys (p + t) ≤ 1099511627776 := by rw [HEB.out]; exact HBD.out _ _
            obtain ⟨e0, e1⟩ := e0
            obtain ⟨a0, a1'⟩ := HAB.out
            have hP0 : 0 ≤ c * (L : Int) := Int.mul_nonneg c0 (by omega)
            have hP1 : c * (L : Int) ≤ 1000 * 7 := Int.mul_le_mul c1 (by omega) (by omega) (by omega)
            have HU' := hid (HU.out (el ys p))
            rw [← HEB.out] at HU'
            clear HU HEB
            generalize hE : el ys (p + t) = E at *
            generalize hA : el ys p = A at *
            clear hE
            have q1 : IntKind.i64.wrap (c * (L : Int)) = c * (L : Int) := IntWalk.i64_in _ (by omega)
            have q2 : IntKind.i64.wrap (s + c * (L : Int)) = s + c * (L : Int) := IntWalk.i64_in _ (by omega)
            have q3 : IntKind.i64.wrap (s + c * (L : Int) + E) = s + c * (L : Int) + E := IntWalk.i64_in _ (by omega)
            have q4 : IntKind.i64.wrap ((p : Int) + t) = (p : Int) + t := IntWalk.i64_in _ (by omega)
            have q5 : ((p : Int) + t).toNat = p + t := by omega
            have q6 : (0 : Int) ≤ (p : Int) + t := by omega
            have q7 : (p : Int) + t < (xs.length : Int) + 1 := by omega
            have q8 : p + t < xs.length + 1 := by omega
            generalize hS : s + c * (L : Int) + E = S at *
            have hS0 : 0 ≤ S ∧ S ≤ 1200000000000 := by omega
            obtain ⟨hS0, hS1⟩ := hS0
            rcases Int.lt_or_le S A with h | h
            · have hmin : min A S = S := by omega
              have hmn := hid hmin
              rw [hmin] at HU'
              have hw3 := hw.set0 hpy (x := S) (by omega)
              have h2 : ¬ A ≤ S := by omega
              clear hmin
              go_wp2_with fail
              go_region
              go_wp2
              go_roundw
              case rel => exact ⟨t + 1, ys.set p S, by omega, by omega, by go_num, by show _ = _; simp; exact HY.out, by show _ = _; rw [drop_set_low (by omega)]; exact HDY.out, by show _ ∧ _; rw [el_set_same hpy]; omega, by show _ = _; rw [el_set_same hpy, ← HRR.out, HST.out, HU'.out], hw3.drewF, (hbel.setCell (p := ⟨w.heap.size, p, none⟩) (Nat.le_refl _) _).drew⟩
              case measure => simp [intOf]; omega
            · have hmin : min A S = A := by omega
              have hmn := hid hmin
              rw [hmin] at HU'
              have hw3 := hw.set0 hpy (x := A) (by omega)
              have h2 : ¬ S < A := by omega
              clear hmin
              go_wp2_with fail
              go_region
              go_wp2
              go_roundw
              case rel => exact ⟨t + 1, ys.set p A, by omega, by omega, by go_num, by show _ = _; simp; exact HY.out, by show _ = _; rw [drop_set_low (by omega)]; exact HDY.out, by show _ ∧ _; rw [el_set_same hpy]; omega, by show _ = _; rw [el_set_same hpy, ← HRR.out, HST.out, HU'.out], hw3.drewF, (hbel.setCell (p := ⟨w.heap.size, p, none⟩) (Nat.le_refl _) _).drew⟩
              case measure => simp [intOf]; omega
          · have hr' : rnOk ((xs.drop p).take t) d = false := by simpa using hr
            have HU := hid (fun a => bIn_no (s := s) (c := c) (B := bst xs d s c (xs.length - (p + 1))) (a := a) (m := xs.length - p + 1 - (t + 1)) hr')
            rw [hr']
            rintro e w1 ⟨v1, rfl, r1, b1⟩
            clear hr hr' r1
            have HF := hid (show el ys p = R by rw [← HRR.out, HST.out, HU.out])
            have hw3 := hw.below b1 hw.lt
            have hbel3 := hbel.trans (b1.mono hbs)
            clear hw hbel
            go_wp2
            go_roundw
            case rel => exact ⟨_, p, ys, rfl, by go_num, by omega, HY, by show _ = _; rw [HR.out, drop_step hpy HDY.out, HF.out], hw3, hbel3⟩
            case measure => simp [intOf]
        · have HF := hid (show el ys p = R by have := HRR.out; rwa [show xs.length - p + 1 - t = 0 by omega] at this)
          have k3 : ¬ (p : Int) + t ≤ xs.length := by omega
          go_wp2
          go_roundw
          case rel => exact ⟨_, p, ys, rfl, by go_num, by omega, HY, by show _ = _; rw [HR.out, drop_step hpy HDY.out, HF.out], hw, hbel⟩
          case measure => simp [intOf]
    · obtain rfl : m = 0 := by omega
      have kz : ¬ (0 : Int) ≤ z := by omega
      have HD0 := hid (show zs = bst xs d s c xs.length by have := HD.out; rwa [List.drop_zero, Nat.sub_zero] at this)
      clear hz HD
      go_wp2
      go_ret
      exact ⟨rfl, by rw [← HD0.out]; exact hw, hbel⟩
theorem c_sFewestSegments (w : World) (v : Value) (xs : List Int) (hv : IsI w w.heap.size v xs) (d : Int) :
    Calls Try.prog 13 #[v, .int .i64 d] w fun e w' => e = .returned (.int .i64 (fsF xs d)) ∧ Below w.heap.size w w' := by
  by_cases hS : SM xs = true
  · have hT := SM_TB hS
    have h60 := (TB_iff.1 hT).2.1
    have h01 := (TB_iff.1 hT).1
    by_cases hd : inB d 0 6 = true
    · obtain ⟨d0, d1⟩ := inB_iff.1 hd
      obtain ⟨dn, rfl⟩ : ∃ dn : Nat, d = dn := ⟨d.toNat, by omega⟩
      have HV := hid (fsF_yes hS (show dn ≤ 6 by omega)).1
      have HS := hid hS
      rw [HV.out]
      have HLN := hid (@bst_len xs dn 1 0 xs.length)
      obtain ⟨R, hR⟩ : ∃ R, el (bst xs dn 1 0 xs.length) 0 = R := ⟨_, rfl⟩
      have HR := hid hR
      rw [hR]
      clear hS hT hR
      go_enter Try.func13, Try.ntmps13
      go_wp2_with fail
      refine (c_l5Small _ xs _ _ hv).mono ?_
      rw [HS.out]
      rintro e wx ⟨rfl, rfl⟩
      go_wp2_with fail
      refine (c_l4Degree _ _).mono ?_
      rw [hd]
      rintro e wx ⟨rfl, rfl⟩
      go_wp2_with fail
      refine (c_l5Best _ _ xs hv dn 1 0 ⟨h01, h60⟩ (by omega) (by omega)).mono ?_
      rintro e w1 ⟨rfl, hw, b1⟩
      have g0 := hw.cell0 0 (by rw [HLN.out]; omega)
      rw [HR.out] at g0
      have k0 : (0 : Int) < (xs.length : Int) + 1 := by omega
      have k1 : 0 < xs.length + 1 := by omega
      clear hw
      go_wp2
      go_ret
      exact ⟨rfl, b1⟩
    · have hd' : inB d 0 6 = false := by simpa using hd
      rw [fsF_no (.inr hd')]
      clear hd
      go_enter Try.func13, Try.ntmps13
      go_wp2_with fail
      refine (c_l5Small _ xs _ _ hv).mono ?_
      rw [hS]
      rintro e wx ⟨rfl, rfl⟩
      go_wp2_with fail
      refine (c_l4Degree _ _).mono ?_
      rw [hd']
      rintro e wx ⟨rfl, rfl⟩
      go_wp2
      go_ret
      exact ⟨rfl, Below.refl _ _⟩
  · have hS' : SM xs = false := by simpa using hS
    rw [fsF_no (.inl hS')]
    clear hS
    go_enter Try.func13, Try.ntmps13
    go_wp2_with fail
    refine (c_l5Small _ xs _ _ hv).mono ?_
    rw [hS']
    rintro e wx ⟨rfl, rfl⟩
    go_wp2
    go_ret
    exact ⟨rfl, Below.refl _ _⟩
theorem bsN_bd {xs : List Int} {d : Nat} (h : SM xs = true) (hd : d ≤ 6) {k : Nat} (hk : k ≤ xs.length) (j : Nat) : 0 ≤ el (bsN xs d k) j ∧ el (bsN xs d k) j ≤ 1099511627776 := by
  rw [(bst_same h hd k hk).1]; exact bst_bd (by omega) (by omega) k j
set_option maxRecDepth 100000 in
set_option maxHeartbeats 1600000 in
theorem c_iFewestSegments (w : World) (v : Value) (xs : List Int) (hv : IsI w w.heap.size v xs) (d : Int) :
    Calls Try.prog 12 #[v, .int .i64 d] w fun e w' => e = .returned (.int .i64 (fsF xs d)) ∧ Below w.heap.size w w' := by
  by_cases hS : SM xs = true
  · have hT := SM_TB hS
    have l60 := (TB_iff.1 hT).2.1
    have l1 := (TB_iff.1 hT).1
    by_cases hd : inB d 0 6 = true
    · obtain ⟨d0, d1⟩ := inB_iff.1 hd
      obtain ⟨dn, rfl⟩ : ∃ dn : Nat, d = dn := ⟨d.toNat, by omega⟩
      have HV := hid (fsF_yes hS (show dn ≤ 6 by omega)).2
      have HBD := hid (fun k (hk : k ≤ xs.length) => bsN_bd hS (show dn ≤ 6 by omega) hk)
      have HS := hid hS
      rw [HV.out]
      clear hS hT
      have hv0 := hv
      obtain ⟨a, cap, rfl, hm, -, hc⟩ := hv
      unfold maxLen at hm
      obtain ⟨b, off, rfl, hb, -⟩ := hc 0 (by omega)
      clear hc
      have HM := hid (made_zero (xs.length + 1))
      have hmk := mk_ints Try.underlying23 Try.infoInt (xs.length + 1) (by omega)
      generalize madeCells #[Value.int .i64 0] (xs.length + 1) = mc at *
      have hmk' : ∀ (W : World), (Instr.makeSlice 23 (.int .i64 ((xs.length : Int) + 1)) (.int .i64 ((xs.length : Int) + 1))).run Try.prog W = .ok (.slice (some ⟨W.heap.size, 0, none⟩) (xs.length + 1) (xs.length + 1)) (W.alloc (.cells mc 3)) := by
        intro W
        rw [show (xs.length : Int) + 1 = ((xs.length + 1 : Nat) : Int) by omega]; exact hmk W
      have hw0 : Wc (w.alloc (.cells mc 3)) w.heap.size 0 (xs.length + 1) (List.replicate (xs.length + 1) 0) := by
        have := (Blk.new (w := w) HM.out).wc (by simp; unfold maxLen; omega) (R64.of_el fun k hk => by simp at hk; simp [el, List.getElem?_replicate, hk])
        simpa using this
      have b0 : Below w.heap.size w (w.alloc (.cells mc 3)) := RetRow.e1 _ _
      clear hmk
      go_enter Try.func12, Try.ntmps12
      go_wp2_with fail
      refine (c_smallTable _ xs _ _ hv0).mono ?_
      rw [HS.out]
      rintro e wx ⟨rfl, rfl⟩
      go_wp2_with fail
      refine (c_degreeValid _ _).mono ?_
      rw [hd]
      rintro e wx ⟨rfl, rfl⟩
      go_wp2
      go_loopw [6] (fun i wr => ∃ (z : Int) (m : Nat) (zs : List Int), i = .int .i64 z ∧ z = (m : Int) - 1 ∧ m ≤ xs.length ∧ Hid (zs.length = xs.length + 1) ∧ Hid (zs.drop m = bsN xs dn (xs.length - m)) ∧ Wc wr w.heap.size 0 (xs.length + 1) zs ∧ Below w.heap.size w wr) (fun i _ => (intOf i + 1).toNat)
      case atStart => exact ⟨_, xs.length, List.replicate (xs.length + 1) 0, rfl, rfl, Nat.le_refl _, by show _ = _; simp, by show _ = _; rw [Nat.sub_self, List.drop_replicate, show xs.length + 1 - xs.length = 1 by omega]; rfl, hw0, b0⟩
      case round =>
        clear hw0 b0 hmk'
        obtain ⟨z, m, zs, rfl, hz, hm2, HZ, HD, hw, hbel⟩ := hrel
        have hbs := hbel.size
        by_cases hp : 0 < m
        · obtain ⟨p, rfl⟩ : ∃ p, m = p + 1 := ⟨m - 1, by omega⟩
          obtain rfl : z = (p : Int) := by omega
          have hpz : p < zs.length := by rw [HZ.out]; omega
          have g0 := hw.cell0 p hpz
          have f0 := hw.free p
          have k0 : (0 : Int) ≤ (p : Int) := by omega
          have k1 : (p : Int) < (xs.length : Int) + 1 := by omega
          have k2 : p < xs.length + 1 := by omega
          have hw2 := hw.set0 hpz (x := 61) (by omega)
          have HZ2 := hid (show (zs.set p 61).length = xs.length + 1 by simp; exact HZ.out)
          have HD2 := hid (show (zs.set p 61).drop (p + 1) = bsN xs dn (xs.length - (p + 1)) by rw [drop_set_low (by omega)]; exact HD.out)
          have HE2 := hid (show el (zs.set p 61) p = 61 from el_set_same hpz)
          have hbel2 := hbel.setCell (p := ⟨w.heap.size, p, none⟩) (Nat.le_refl _) (.int .i64 61)
          have HR := hid (show bsN xs dn (xs.length - p) = bNB (xs.drop p) dn (bsN xs dn (xs.length - (p + 1))) 61 1 (xs.length - p) :: bsN xs dn (xs.length - (p + 1)) by
            rw [show xs.length - p = (xs.length - (p + 1)) + 1 by omega, bsN, show xs.length - (xs.length - (p + 1) + 1) = p by omega])
          obtain ⟨R, hR⟩ : ∃ R, bNB (xs.drop p) dn (bsN xs dn (xs.length - (p + 1))) 61 1 (xs.length - p) = R := ⟨_, rfl⟩
          rw [hR] at HR
          have HRR := hid hR
          clear hR hz hp
          go_wp2
          go_loopw [7] (fun i wr => ∃ (q : Nat) (zs : List Int), p < q ∧ q ≤ xs.length + 1 ∧ i = .int .i64 q ∧ Hid (zs.length = xs.length + 1) ∧ Hid (zs.drop (p + 1) = bsN xs dn (xs.length - (p + 1))) ∧ Hid (0 ≤ el zs p ∧ el zs p ≤ 1099511627776) ∧ Hid (bNB (xs.drop p) dn (bsN xs dn (xs.length - (p + 1))) (el zs p) (q - p) (xs.length + 1 - q) = R) ∧ Wc wr w.heap.size 0 (xs.length + 1) zs ∧ Below w.heap.size w wr) (fun i _ => (xs.length + 1) - (intOf i).toNat)
          case atStart => exact ⟨p + 1, _, by omega, by omega, by go_num, HZ2, HD2, by show _ ∧ _; rw [HE2.out]; omega, by show _ = _; rw [HE2.out, show p + 1 - p = 1 by omega, show xs.length + 1 - (p + 1) = xs.length - p by omega]; exact HRR.out, hw2, hbel2⟩
          case round =>
            clear hw hw2 hbel hbel2 hbs g0 f0 HZ HD HZ2 HD2 HE2 HRR
            obtain ⟨q, ys, ht1, ht2, rfl, HY, HDY, HAB, HRR, hw, hbel⟩ := hrel
            have hbs := hbel.size
            have hpy : p < ys.length := by rw [HY.out]; omega
            by_cases hlt : q ≤ xs.length
            · have k3 : (q : Int) ≤ xs.length := by omega
              have k4 : (q : Int) ≤ cap := by omega
              have k5 : (p : Int) < cap := by omega
              have k6 : ¬ cap = p := by omega
              have k7 : (p : Int) ≤ q := by omega
              have k8 : p ≤ q := by omega
              have hsub := (((hv0.below hbel (Nat.le_refl _)).sub (lo := p) (m := q - p) (by omega))).up hbs
              have HST := hid (show xs.length + 1 - q = (xs.length + 1 - (q + 1)) + 1 by omega)
              have HQ := hid (show q - p + 1 = q + 1 - p by omega)
              go_wp2_with fail
              refine (c_runOf _ _ _ hsub dn).mono ?_
              by_cases hr : rnOk ((xs.drop p).take (q - p)) dn = true
              · have HU := hid (fun a => bNB_yes (B := bsN xs dn (xs.length - (p + 1))) (a := a) (m := xs.length + 1 - (q + 1)) hr)
                rw [hr]
                rintro e w1 ⟨v1, rfl, r1, b1⟩
                clear hr r1
                replace hw := hw.below b1 hw.lt
                replace hbel := hbel.trans (b1.mono hbs)
                have g0 := hw.cell0 p hpy
                have g1 := hw.cell0 q (by rw [HY.out]; omega)
                have f0 := hw.free p
                have HEB := hid (show el ys q = el (bsN xs dn (xs.length - (p + 1))) (q - p - 1) by
                  have := el_of_drop HDY.out (q - p - 1)
                  rwa [show p + 1 + (q - p - 1) = q by omega] at this)
                have e0 : 0 ≤ el ys q ∧ el ys q ≤ 1099511627776 := by rw [HEB.out]; exact HBD.out _ (by omega) _
                obtain ⟨e0, e1⟩ := e0
                obtain ⟨a0, a1'⟩ := HAB.out
                have HU' := hid (HU.out (el ys p))
                rw [← HEB.out] at HU'
                clear HU HEB
                generalize hE : el ys q = E at *
                generalize hA : el ys p = A at *
                clear hE
                have q3 : IntKind.i64.wrap (1 + E) = 1 + E := IntWalk.i64_in _ (by omega)
                have q7 : (q : Int) < (xs.length : Int) + 1 := by omega
                have q8 : q < xs.length + 1 := by omega
                have q9 : (0 : Int) ≤ (q : Int) := by omega
                generalize hS : 1 + E = S at *
                have hS0 : 0 ≤ S ∧ S ≤ 1200000000000 := by omega
                obtain ⟨hS0, hS1⟩ := hS0
                rcases Int.lt_or_le S A with h | h
                · have hmin : min A S = S := by omega
                  rw [hmin] at HU'
                  have hw3 := hw.set0 hpy (x := S) (by omega)
                  have h2 : ¬ A ≤ S := by omega
                  clear hmin
                  go_wp2_with fail
                  go_region
                  go_wp2
                  go_roundw
                  case rel => exact ⟨q + 1, ys.set p S, by omega, by omega, by go_num, by show _ = _; simp; exact HY.out, by show _ = _; rw [drop_set_low (by omega)]; exact HDY.out, by show _ ∧ _; rw [el_set_same hpy]; omega, by show _ = _; rw [el_set_same hpy, ← HRR.out, HST.out, HU'.out, HQ.out], hw3.drewF, (hbel.setCell (p := ⟨w.heap.size, p, none⟩) (Nat.le_refl _) _).drew⟩
                  case measure => simp [intOf]; omega
                · have hmin : min A S = A := by omega
                  rw [hmin] at HU'
                  have hw3 := hw.set0 hpy (x := A) (by omega)
                  have h2 : ¬ S < A := by omega
                  clear hmin
                  go_wp2_with fail
                  go_region
                  go_wp2
                  go_roundw
                  case rel => exact ⟨q + 1, ys.set p A, by omega, by omega, by go_num, by show _ = _; simp; exact HY.out, by show _ = _; rw [drop_set_low (by omega)]; exact HDY.out, by show _ ∧ _; rw [el_set_same hpy]; omega, by show _ = _; rw [el_set_same hpy, ← HRR.out, HST.out, HU'.out, HQ.out], hw3.drewF, (hbel.setCell (p := ⟨w.heap.size, p, none⟩) (Nat.le_refl _) _).drew⟩
                  case measure => simp [intOf]; omega
              · have hr' : rnOk ((xs.drop p).take (q - p)) dn = false := by simpa using hr
                have HU := hid (bNB_no (B := bsN xs dn (xs.length - (p + 1))) (a := el ys p) (m := xs.length + 1 - (q + 1)) hr')
                rw [hr']
                rintro e w1 ⟨v1, rfl, r1, b1⟩
                clear hr hr' r1
                have hw3 := hw.below b1 hw.lt
                have hbel3 := hbel.trans (b1.mono hbs)
                clear hw hbel
                go_wp2
                go_roundw
                case rel => exact ⟨q + 1, ys, by omega, by omega, by go_num, HY, HDY, HAB, by show _ = _; rw [← HRR.out, HST.out, HU.out, HQ.out], hw3, hbel3⟩
                case measure => simp [intOf]; omega
            · have HF := hid (show el ys p = R by have := HRR.out; rwa [show xs.length + 1 - q = 0 by omega] at this)
              have k3 : ¬ (q : Int) ≤ xs.length := by omega
              have k4 : ¬ q ≤ xs.length := hlt
              go_wp2
              go_roundw
              case rel => exact ⟨_, p, ys, rfl, by go_num, by omega, HY, by show _ = _; rw [HR.out, drop_step hpy HDY.out, HF.out], hw, hbel⟩
              case measure => simp [intOf]
        · obtain rfl : m = 0 := by omega
          have kz : ¬ (0 : Int) ≤ z := by omega
          have HD0 := hid (show zs = bsN xs dn xs.length by have := HD.out; rwa [List.drop_zero, Nat.sub_zero] at this)
          have g0 := hw.cell0 0 (by rw [HZ.out]; omega)
          have k0 : (0 : Int) < (xs.length : Int) + 1 := by omega
          have k1 : 0 < xs.length + 1 := by omega
          clear hz HD hw
          go_wp2
          go_ret
          exact ⟨retI (by rw [← HD0.out]), hbel⟩
    · have hd' : inB d 0 6 = false := by simpa using hd
      rw [fsF_no (.inr hd')]
      clear hd
      go_enter Try.func12, Try.ntmps12
      go_wp2_with fail
      refine (c_smallTable _ xs _ _ hv).mono ?_
      rw [hS]
      rintro e wx ⟨rfl, rfl⟩
      go_wp2_with fail
      refine (c_degreeValid _ _).mono ?_
      rw [hd']
      rintro e wx ⟨rfl, rfl⟩
      go_wp2
      go_ret
      exact ⟨rfl, Below.refl _ _⟩
  · have hS' : SM xs = false := by simpa using hS
    rw [fsF_no (.inl hS')]
    clear hS
    go_enter Try.func12, Try.ntmps12
    go_wp2_with fail
    refine (c_smallTable _ xs _ _ hv).mono ?_
    rw [hS']
    rintro e wx ⟨rfl, rfl⟩
    go_wp2
    go_ret
    exact ⟨rfl, Below.refl _ _⟩
end Go.Proofs.Ytkiebajggombiaa
