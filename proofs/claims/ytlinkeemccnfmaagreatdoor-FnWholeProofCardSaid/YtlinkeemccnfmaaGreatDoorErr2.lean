/- What is proved here: those statements of Err2 that this claim needs. -/
import Derived.Test.YtlinkeemccnfmaaGreatDoorNum
set_option linter.unusedVariables false
set_option linter.unusedSimpArgs false
namespace Go.Proofs.YtlinkeemccnfmaaGreatDoor
open Go.RowKit
theorem slipF_ok {c t a cnt : Int} (h : slipOk c t a cnt = true) : slipF c t a cnt = (List.range cnt.toNat).map fun i => effF c.toNat t a (i : Nat) := by
  have h' : (slipB c t a && inB cnt 0 60) = true := h
  simp [slipF, h']
theorem slipF_no {c t a cnt : Int} (h : slipOk c t a cnt = false) : slipF c t a cnt = [] := by
  have h' : (slipB c t a && inB cnt 0 60) = false := h
  simp [slipF, h']
theorem effF_bd {c : Nat} {t a n : Int} (hc : c ≤ 6) (ht : 0 ≤ t ∧ t ≤ 59) (ha : -100000 ≤ a ∧ a ≤ 100000) (hn : 0 ≤ n ∧ n ≤ 60) :
    -1000000000000000000 ≤ effF c t a n ∧ effF c t a n ≤ 1000000000000000000 := by
  unfold effF; split
  · omega
  · have h := ch_bd6 (n := n - t) (k := c) (by omega) hc
    have := mul_bd (a := a) (b := chF (n - t) c) (A := 100000) (B := 1064089721800) (by omega) ha.1 ha.2 h.1 h.2
    omega
theorem slipF_el {c t a cnt : Int} {j : Nat} (h : slipOk c t a cnt = true) (hj : (j : Int) < cnt) : el (slipF c t a cnt) j = effF c.toNat t a j := by
  rw [slipF_ok h, el_map _ _ _ (by simp; omega)]; simp
theorem slipF_R {c t a cnt : Int} : R64 (slipF c t a cnt) := by
  by_cases h : slipOk c t a cnt = true
  · apply R64.of_el
    intro k hk
    have hl : (slipF c t a cnt).length = cnt.toNat := by rw [slipF_ok h]; simp
    have h' := h
    simp only [slipOk, Bool.and_eq_true, inB_iff, slipB_iff] at h'
    rw [slipF_el h (by omega)]
    have := effF_bd (c := c.toNat) (t := t) (a := a) (n := k) (by omega) h'.1.2.1 h'.1.2.2 (by omega)
    omega
  · rw [slipF_no (by simpa using h)]; exact R64.nil

theorem slip_fill {c t a : Int} {n : Nat} {ys : List Int} {j : Nat} (hl : ys.length = n) (hj : j < n) (h : ∀ i, i < n → el ys i = if (i : Int) < t ∨ j ≤ i then 0 else effF c.toNat t a i) (ht : ¬ (j : Int) < t) :
    ∀ i, i < n → el (ys.set j (a * chF ((j : Int) - t) c.toNat)) i = if (i : Int) < t ∨ j + 1 ≤ i then 0 else effF c.toNat t a i := by
  intro i hi
  by_cases e : j = i
  · subst e; rw [el_set_same (by omega), if_neg (by omega), effF, if_neg ht]
  · rw [el_set_other e, h i hi]
    by_cases e1 : (i : Int) < t ∨ j ≤ i
    · rw [if_pos e1, if_pos (by omega)]
    · rw [if_neg e1, if_neg (by omega)]
theorem c_iSlipEffect (w : World) (c t a cnt : Int) :
    Calls Tryz.prog 11 #[.int .i64 c, .int .i64 t, .int .i64 a, .int .i64 cnt] w (RetRowB w (slipF c t a cnt) (slipOk c t a cnt)) := by
  by_cases h1 : slipB c t a = true
  · by_cases h2 : inB cnt 0 60 = true
    · have hok : slipOk c t a cnt = true := by simp [slipOk, h1, h2]
      have HOK : Hid (slipOk c t a cnt = true) := hok
      obtain ⟨⟨hc1, hc2⟩, ⟨ht1, ht2⟩, ha⟩ := slipB_iff.1 h1
      obtain ⟨hn1, hn2⟩ := inB_iff.1 h2
      obtain ⟨k, rfl⟩ : ∃ k : Nat, c = k := ⟨c.toNat, by omega⟩
      obtain ⟨n, rfl⟩ : ∃ n : Nat, cnt = n := ⟨cnt.toNat, by omega⟩
      obtain ⟨u, rfl⟩ : ∃ u : Nat, t = u := ⟨t.toNat, by omega⟩
      have HL : Hid ((slipF k u a n).length = n) := by show (slipF k u a n).length = n; rw [slipF_ok hok]; simp
      have HA : Hid (-100000 ≤ a ∧ a ≤ 100000) := ha
      rw [hok]
      have HM := made_zero n
      have hmk := mk_ints Tryz.underlying23 Tryz.infoInt n (by omega)
      generalize madeCells #[Value.int .i64 0] n = mc at *
      have HM' : Hid (mc = ((List.replicate n (0 : Int)).map (Value.int .i64)).toArray) := HM
      clear hok ha HM
      go_enter Tryz.func11, Tryz.ntmps11
      go_wp2_with (first | (go_at_call 36; refine (c_slipValid _ _ _ _).mono ?_; rintro e w' ⟨rfl, rfl⟩) | (go_at_call 35; refine (c_countValid _ _).mono ?_; rintro e w' ⟨rfl, rfl⟩))
      go_loopw [11] (fun i wr => ∃ (j : Nat) (ys : List Int), (j ≤ n ∨ n < u) ∧ u ≤ j ∧ (n < u → j = u) ∧ i = .int .i64 j ∧ Blk wr w.heap.size ys ∧ ys.length = n ∧ (∀ i, i < n → el ys i = if (i : Int) < (u : Int) ∨ j ≤ i then 0 else effF (k : Int).toNat u a i) ∧ Below w.heap.size w wr) (fun i _ => n - (intOf i).toNat)
      case atStart =>
        refine ⟨u, List.replicate n 0, by omega, Nat.le_refl _, fun _ => rfl, rfl, Blk.new HM'.out, by simp, fun i hi => ?_, (Below.refl _ _).alloc (Nat.le_refl _) _⟩
        rw [if_pos (by omega), el_lt (by simpa using hi)]; simp
      case round =>
        obtain ⟨j, ys, hj, huj, hnu, rfl, HB, hlen, HT, hbel⟩ := hrel
        have HT' := hid HT
        have HL' := hid hlen
        have HNU := hid hnu
        clear HT hlen hmk hnu
        by_cases hlt : j < n
        · have hd := HB.cell j (by rw [HL'.out]; exact hlt)
          have hf := HB.free j
          have hb := ch_bd6 (n := (j : Int) - u) (k := k) (by omega) (by omega)
          obtain ⟨hm1, hm2⟩ := mul_bd (a := a) (b := chF ((j : Int) - u) k) (A := 100000) (B := 1064089721800) (by omega) HA.out.1 HA.out.2 hb.1 hb.2
          clear hb
          go_wp2_with (go_at_call 44; refine (c_choose _ _ _ (by omega) (by omega)).mono ?_; rintro e w' ⟨rfl, rfl⟩)
          go_roundw
          case rel => exact ⟨j + 1, _, by omega, by omega, fun h => by omega, by go_num, HB.set _ _, by simpa using HL'.out, slip_fill HL'.out hlt HT'.out (by omega), hbel.setCell (Nat.le_refl _) _⟩
          case measure => simp [intOf]; omega
        · go_wp2
          go_ret2
          have e1 := HL'.out
          have e2 := HL.out
          have e3 : ys = slipF k u a n := by
            refine list_ext (by omega) fun i hi => ?_
            rw [HT'.out i (by omega), slipF_el HOK.out (by omega)]
            by_cases e : (i : Int) < u
            · rw [if_pos (by omega), effF, if_pos e]
            · rw [if_neg (by omega)]
          subst e3
          have hlt' := HB.lt
          have hw := HB.rw (Nat.le_refl _) hlt' (by unfold maxLen; omega) slipF_R
          rw [e2] at hw
          exact ⟨_, rfl, hw, hbel⟩
    · have h2' : inB cnt 0 60 = false := by simpa using h2
      have hok : slipOk c t a cnt = false := by simp [slipOk, h2']
      rw [slipF_no hok, hok]
      clear hok h2
      go_enter Tryz.func11, Tryz.ntmps11
      go_wp2_with (first | (go_at_call 36; refine (c_slipValid _ _ _ _).mono ?_; rintro e w' ⟨rfl, rfl⟩) | (go_at_call 35; refine (c_countValid _ _).mono ?_; rintro e w' ⟨rfl, rfl⟩))
      go_ret2
      exact ⟨_, rfl, Rw.nil _ _ _, Below.refl _ _⟩
  · have h1' : slipB c t a = false := by simpa using h1
    have hok : slipOk c t a cnt = false := by simp [slipOk, h1']
    rw [slipF_no hok, hok]
    clear hok h1
    go_enter Tryz.func11, Tryz.ntmps11
    go_wp2_with (first | (go_at_call 36; refine (c_slipValid _ _ _ _).mono ?_; rintro e w' ⟨rfl, rfl⟩) | (go_at_call 35; refine (c_countValid _ _).mono ?_; rintro e w' ⟨rfl, rfl⟩))
    go_ret2
    exact ⟨_, rfl, Rw.nil _ _ _, Below.refl _ _⟩
end Go.Proofs.YtlinkeemccnfmaaGreatDoor
