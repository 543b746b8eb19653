/- What is proved here: those statements of Apl2 that this claim needs. -/
import Derived.Test.YtlinkeemccnfmaaGreatDoorApl
import Derived.Test.YtlinkeemccnfmaaGreatDoorDraw2
set_option linter.unusedVariables false
set_option linter.unusedSimpArgs false
namespace Go.Proofs.YtlinkeemccnfmaaGreatDoor
open Go.RowKit
def apT (ps zs : List Int) : Nat → Option (List Int)
  | 0 => some ps
  | j + 1 => match apT ps zs j with
    | none => none
    | some out => if (out.length : Int) ≤ el zs (j * 3) ∨ el out (el zs (j * 3)).toNat ≠ el zs (j * 3 + 1) then none else some (out.set (el zs (j * 3)).toNat (el zs (j * 3 + 2)))
def apOk (ps zs : List Int) : Bool := TB ps && (EV zs && (apT ps zs (zs.length / 3)).isSome)
def apF (ps zs : List Int) : List Int := if TB ps && EV zs then (apT ps zs (zs.length / 3)).getD [] else []
theorem apT_none {ps zs : List Int} {j : Nat} (h : apT ps zs j = none) : ∀ d, apT ps zs (j + d) = none := by
  intro d
  induction d with
  | zero => exact h
  | succ d ih => rw [show j + (d + 1) = (j + d) + 1 by omega, apT, ih]
theorem apT_len {ps zs : List Int} {j : Nat} : ∀ {out : List Int}, apT ps zs j = some out → out.length = ps.length := by
  induction j with
  | zero => intro out h; simp only [apT, Option.some.injEq] at h; rw [← h]
  | succ j ih =>
    intro out h
    rw [apT] at h
    cases h1 : apT ps zs j with
    | none => rw [h1] at h; cases h
    | some o =>
      rw [h1] at h
      simp only at h
      split at h
      · cases h
      · simp only [Option.some.injEq] at h; rw [← h, List.length_set]; exact ih h1
theorem apT_big {ps zs out : List Int} {j : Nat} (h : apT ps zs j = some out) (hc : (out.length : Int) ≤ el zs (j * 3) ∨ el out (el zs (j * 3)).toNat ≠ el zs (j * 3 + 1)) : apT ps zs (j + 1) = none := by
  rw [apT, h]; simp only; rw [if_pos hc]
theorem apT_fit {ps zs out : List Int} {j : Nat} (h : apT ps zs j = some out) (hc : ¬ ((out.length : Int) ≤ el zs (j * 3) ∨ el out (el zs (j * 3)).toNat ≠ el zs (j * 3 + 1))) : apT ps zs (j + 1) = some (out.set (el zs (j * 3)).toNat (el zs (j * 3 + 2))) := by
  rw [apT, h]; simp only; rw [if_neg hc]
theorem ap_none {ps zs : List Int} {n j : Nat} (hn : zs.length = n * 3) (hj : j < n) (h : apT ps zs (j + 1) = none) : apF ps zs = [] ∧ apOk ps zs = false := by
  have h1 := apT_none h (n - (j + 1))
  rw [show j + 1 + (n - (j + 1)) = n by omega] at h1
  have h2 : zs.length / 3 = n := by omega
  constructor
  · unfold apF; rw [h2, h1]; split <;> rfl
  · unfold apOk; rw [h2, h1]; simp
theorem ap_some {ps zs out : List Int} {n : Nat} (hn : zs.length = n * 3) (hT : TB ps = true) (hE : EV zs = true) (h : apT ps zs n = some out) : apF ps zs = out ∧ apOk ps zs = true := by
  have h2 : zs.length / 3 = n := by omega
  constructor
  · unfold apF; rw [h2, h, if_pos (by rw [hT, hE]; rfl)]; rfl
  · unfold apOk; rw [h2, h, hT, hE]; rfl
theorem ap_no {ps zs : List Int} (h : TB ps = false ∨ EV zs = false) : apF ps zs = [] ∧ apOk ps zs = false := by
  constructor
  · unfold apF; rw [if_neg]; rcases h with h | h <;> simp [h]
  · unfold apOk; rcases h with h | h <;> simp [h]
theorem Wc.rw {w : World} {g cap lo hi : Nat} {xs : List Int} (h : Wc w g 0 cap xs) (hl : lo ≤ g) (hh : g < hi) (hcap : ∀ cur, w.heap[g]? = some (.cells cur 3 (0, 0)) → cur.size = cap) : Rw w lo hi (.slice (some ⟨g, 0, none⟩) xs.length cap) xs := by
  obtain ⟨cur, h1, h2, h3, h4⟩ := h
  refine ⟨own_of_cells h1 hl h2.1 h2.2 (hcap cur h1) (by simp) fun i hi => ?_, fun k hk => by simp [Value.ownBlock] at hk; omega, h3⟩
  have := h4 i hi
  rw [Nat.zero_add] at this
  rw [this, map_int_at _ _ hi]

set_option maxHeartbeats 1600000 in
theorem c_iApplyErrata (w : World) (v : Value) (ps : List Int) (hv : IsI w w.heap.size v ps) (u : Value) (zs : List Int) (hu : IsE w w.heap.size u zs) :
    Calls Tryz.prog 17 #[v, u] w (RetRowB w (apF ps zs) (apOk ps zs)) := by
  by_cases hT : TB ps = true
  · by_cases hE : EV zs = true
    · have HT := hid hT
      have HE := hid hE
      have hl := (TB_iff.1 hT).2.1
      have hl0 := (TB_iff.1 hT).1
      have hu0 := hu
      obtain ⟨n, a, cap, hua, HL, hm, -, hc⟩ := hu
      unfold maxLen at hm
      have HEA := hid (fun i (hi : i < n) => e1B_iff.1 (evB_at (show evB zs n = true by have := HE.out; unfold EV at this; rwa [HL.out, Nat.mul_div_cancel _ (by omega)] at this) hi))
      subst hua
      clear hT hE
      go_enter Tryz.func17, Tryz.ntmps17
      go_wp2_with fail
      refine (c_iTableValid _ ps _ _ hv).mono ?_
      rw [HT.out]
      rintro e wx ⟨rfl, rfl⟩
      go_wp2_with fail
      refine (c_errataValid _ zs _ _ (Nat.le_refl _) hu0).mono ?_
      rw [HE.out]
      rintro e w1 ⟨rfl, b1⟩
      have s1 := b1.size
      go_wp2_with fail
      refine (c_CloneI _ ps _ (by omega) ((hv.below b1 (Nat.le_refl _)).up s1)).mono ?_
      rintro e w2 ⟨v2, rfl, r2, b2⟩
      have s2 := b2.size
      obtain ⟨g, cap2, rfl, hg1, hg2, hw⟩ := OwnI.wc r2.own (by omega) r2.range
      have hb := b1.trans (b2.mono s1)
      have hr0 : Rw w2 w.heap.size (g + 1) (.slice (some ⟨g, 0, none⟩) ps.length cap2) ps := ⟨(r2.down (by omega)).1, fun k hk => by simp [Value.ownBlock] at hk; omega, r2.range⟩
      clear r2 b1 b2 hv hu0
      generalize hml : ps.length = m at *
      have HML := hid hml
      clear hml
      go_wp2
      go_loopw [21] (fun i wr => ∃ (j : Nat) (out : List Int), j ≤ n ∧ i = .int .i64 j ∧ Hid (apT ps zs j = some out) ∧ Rw wr w.heap.size (g + 1) (.slice (some ⟨g, 0, none⟩) m cap2) out ∧ Below w.heap.size w wr) (fun i _ => n - (intOf i).toNat)
      case atStart => exact ⟨0, ps, Nat.zero_le _, rfl, rfl, hr0, hb⟩
      case round =>
        obtain ⟨j, out, hj, rfl, HO, hr, hbel⟩ := hrel
        have hlo : out.length = m := by rw [apT_len HO.out]; exact HML.out
        have HLO := hid hlo
        have hgs : g < wr.heap.size := by
          obtain ⟨g', cap', he, _, _, h3, _⟩ := hr.split (by omega)
          simp only [Value.slice.injEq, Option.some.injEq, Addr.mk.injEq] at he; omega
        clear hlo hb hw hr0
        by_cases hlt : j < n
        · obtain ⟨b, off, rfl, hbb, hcell⟩ := hc j hlt
          have hbs := hbel.size
          have g0 := (hbel.cell (p := ⟨b, off + j * 3, none⟩) (show b < w.heap.size by omega)).trans (hcell (j * 3) (by omega))
          have g1 := (hbel.cell (p := ⟨b, off + j * 3 + 1, none⟩) (show b < w.heap.size by omega)).trans (hcell (j * 3 + 1) (by omega))
          have g2 := (hbel.cell (p := ⟨b, off + j * 3 + 2, none⟩) (show b < w.heap.size by omega)).trans (hcell (j * 3 + 2) (by omega))
          have hba := hbel.alloc hbel.size (.cells #[.int .i64 (el zs (j * 3)), .int .i64 (el zs (j * 3 + 1)), .int .i64 (el zs (j * 3 + 2))] 67)
          have hra := hr.below (RetRow.e1 wr (.cells #[.int .i64 (el zs (j * 3)), .int .i64 (el zs (j * 3 + 1)), .int .i64 (el zs (j * 3 + 2))] 67)) (by omega)
          obtain ⟨⟨e0, e1⟩, -, -, ⟨e2, e3⟩, -⟩ := HEA.out j hlt
          have HB := hid (apT_big HO.out)
          have HF := hid (apT_fit HO.out)
          have HNO := hid (fun h => ap_none (ps := ps) (zs := zs) HL.out hlt h)
          clear hc hcell hr hbel
          generalize el zs (j * 3) = p at *
          generalize el zs (j * 3 + 1) = q at *
          generalize el zs (j * 3 + 2) = t at *
          by_cases h1 : (m : Int) ≤ p
          · have HR := hid (HNO.out (HB.out (.inl (by rw [HLO.out]; exact h1))))
            have k1 : decide ((m : Int) ≤ p) = true := by simpa using h1
            go_wp2_with fail
            go_quiet (fail)
            go_wp2
            go_ret2
            exact ⟨_, by rw [HR.out.2]; rfl, by rw [HR.out.1]; exact Rw.nil _ _ _, bel_drewN hba _⟩
          · have k1 : decide ((m : Int) ≤ p) = false := by simpa using h1
            obtain ⟨pn, rfl⟩ : ∃ pn : Nat, p = pn := ⟨p.toNat, by omega⟩
            have hpm : pn < out.length := by rw [HLO.out]; omega
            have k1n : decide (m ≤ pn) = false := by simp; omega
            obtain ⟨g', cap', he, _, _, _, hcl, hfr⟩ := hra.split (by omega)
            simp only [Value.slice.injEq, Option.some.injEq, Addr.mk.injEq] at he
            obtain ⟨⟨rfl, -, -⟩, -, -⟩ := he
            have g3 := hcl pn hpm
            have f3 := hfr pn
            have k2 : (pn : Int) < m := by omega
            clear hcl hfr
            by_cases h2 : el out pn = q
            · have k3 : (el out pn != q) = false := by simpa using h2
              have HR := hid (HF.out (by rw [HLO.out]; simp; omega))
              clear h2
              have hrs := (hra.set hpm (x := t) (by omega))
              go_wp2_with fail
              go_quiet (fail)
              go_wp2
              go_roundw
              case rel => exact ⟨j + 1, out.set pn t, by omega, by go_num, by show _ = _; rw [HR.out]; simp, hrs, (bel_drewN hba nq).setCell (p := ⟨g, pn, none⟩) (by show w.heap.size ≤ g; omega) _⟩
              case measure => simp [intOf]; omega
            · have k3 : (el out pn != q) = true := by simpa using h2
              have HR := hid (HNO.out (HB.out (.inr (by simpa using h2))))
              clear h2
              go_wp2_with fail
              go_quiet (fail)
              go_wp2
              go_ret2
              exact ⟨_, by rw [HR.out.2]; rfl, by rw [HR.out.1]; exact Rw.nil _ _ _, bel_drewN hba _⟩
        · obtain rfl : j = n := by omega
          have HR := hid (ap_some HL.out HT.out HE.out HO.out)
          clear hc
          go_wp2
          go_ret2
          refine ⟨_, by rw [HR.out.2]; rfl, ?_, hbel⟩
          rw [HR.out.1]
          exact hr.up (by omega)
    · have hE2 : EV zs = false := by simpa using hE
      rw [(ap_no (.inr hE2)).1, (ap_no (.inr hE2)).2]
      clear hE
      go_enter Tryz.func17, Tryz.ntmps17
      go_wp2_with fail
      refine (c_iTableValid _ ps _ _ hv).mono ?_
      rw [hT]
      rintro e wx ⟨rfl, rfl⟩
      go_wp2_with fail
      refine (c_errataValid _ zs _ _ (Nat.le_refl _) hu).mono ?_
      rw [hE2]
      rintro e w1 ⟨rfl, b1⟩
      go_wp2
      go_ret2
      exact ⟨_, rfl, Rw.nil _ _ _, b1⟩
  · have hT2 : TB ps = false := by simpa using hT
    rw [(ap_no (.inl hT2)).1, (ap_no (.inl hT2)).2]
    clear hT
    go_enter Tryz.func17, Tryz.ntmps17
    go_wp2_with fail
    refine (c_iTableValid _ ps _ _ hv).mono ?_
    rw [hT2]
    rintro e wx ⟨rfl, rfl⟩
    go_wp2
    go_ret2
    exact ⟨_, rfl, Rw.nil _ _ _, Below.refl _ _⟩
end Go.Proofs.YtlinkeemccnfmaaGreatDoor
