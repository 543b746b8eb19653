/- What is proved here: the text of an engine (spec and impl). -/
import Derived.Test.YtkaanlldjkflaaaDoorEtM
import Derived.Test.YtkaanlldjkflaaaDoorShd
import Derived.Test.YtkaanlldjkflaaaDoorSlr2
set_option linter.unusedVariables false
set_option linter.unusedSimpArgs false
set_option maxRecDepth 100000
namespace Go.Proofs.YtkaanlldjkflaaaDoor
open Go.RowKit

theorem c_Clone (s : ByteArray) (w : World) (h : s.size ≤ 281474976710656) :
    Calls Tryd.prog 18 #[.string s] w fun e w' => e = .returned (.string s) ∧ Below w.heap.size w w' := by
  have HC := hid (Tryd.stringslite_Clone s w h)
  go_enter Tryd.func18, Tryd.ntmps18
  go_wp2_with fail
  refine HC.out.mono ?_
  rintro e w1 ⟨rfl, b⟩
  go_wp2
  go_ret
  exact ⟨rfl, b⟩
theorem c_Join (v : Value) (cs : List ByteArray) (w : World) (hv : IsT w w.heap.size v cs) (h : EGV cs = true) :
    Calls Tryd.prog 14 #[v, .string ⟨#[32]⟩] w fun e w' => e = .returned (.string (JB cs)) ∧ Below w.heap.size w w' := by
  obtain ⟨a, cap, rfl, hm, hc⟩ := hv
  unfold maxLen at hm
  have hl := (EGV_iff.1 h).1
  obtain ⟨b, off, rfl, hb, _, _⟩ := hc 0 (by omega)
  have hs := (JB_size h).2
  refine Tryd.strings_Join b off cap cs ⟨#[32]⟩ w (fun j x hx => ?_) hb (by omega) hm.1 ?_
  · obtain ⟨hj, hx⟩ := List.getElem?_eq_some_iff.1 hx
    obtain ⟨b', off', e, _, hcell, _⟩ := hc j hj
    simp only [Option.some.injEq, Addr.mk.injEq, and_true] at e
    obtain ⟨rfl, rfl⟩ := e
    rw [tC_lt hj, hx] at hcell
    exact hcell
  · have : (Lib.join (cs.map (·.data.toList)) (⟨#[32]⟩ : ByteArray).data.toList).length = (JB cs).size := by rw [← dt_len]; rfl
    rw [this]; omega
theorem c_iFormatEngine (v : Value) (cs : List ByteArray) (w : World) (hv : IsT w w.heap.size v cs) :
    Calls Tryd.prog 5 #[.agg #[v]] w fun e w' => e = .returned (.string (FE cs)) ∧ Below w.heap.size w w' := by
  have HV := hid hv
  obtain ⟨a, cap, hav, _, _⟩ := hv
  subst hav
  have b1 := RetRow.e1 w (.cells #[.slice a cs.length cap] 25)
  have g1 := eng_cell w (.slice a cs.length cap) 25
  have HV1 := hid ((HV.out.below b1 (Nat.le_refl _)).up (B' := (w.alloc (.cells #[.slice a cs.length cap] 25)).heap.size) b1.size)
  have HB := hid b1
  clear b1
  cases he : EGV cs with
  | false =>
    have HF := hid (FE_no he)
    have HE := hid he
    clear he
    go_enter Tryd.func5, Tryd.ntmps5
    go_wp2_with fail
    refine (c_iEngineValid _ cs _ HV1.out).mono ?_
    rintro e w2 ⟨rfl, b2⟩
    rw [HE.out]
    go_wp2
    go_ret
    exact ⟨by rw [HF.out]; rfl, HB.out.trans (b2.mono HB.out.size)⟩
  | true =>
    have HF := hid (FE_yes he)
    have HE := hid he
    clear he
    go_enter Tryd.func5, Tryd.ntmps5
    go_wp2_with fail
    refine (c_iEngineValid _ cs _ HV1.out).mono ?_
    rintro e w2 ⟨rfl, b2⟩
    rw [HE.out]
    have HB2 := hid (HB.out.trans (b2.mono HB.out.size))
    have g2 := (b2.cell (p := ⟨w.heap.size, 0, none⟩) (by simp)).trans g1
    have HV2 := hid ((HV.out.below HB2.out (Nat.le_refl _)).up HB2.out.size)
    clear g1 b2
    go_wp2_with fail
    refine (c_Join _ cs _ HV2.out HE.out).mono ?_
    rintro e w3 ⟨rfl, b3⟩
    go_wp2
    go_ret
    exact ⟨by rw [HF.out]; rfl, HB2.out.trans (b3.mono HB2.out.size)⟩
set_option maxHeartbeats 800000 in
theorem c_sFormatEngine (v : Value) (cs : List ByteArray) (w : World) (hl : cs.length ≤ 1048576) (hv : IsT w w.heap.size v cs) :
    Calls Tryd.prog 6 #[.agg #[v]] w fun e w' => e = .returned (.string (FE cs)) ∧ Below w.heap.size w w' := by
  have HV := hid hv
  obtain ⟨a, cap, hav, hm, hc⟩ := hv
  subst hav
  unfold maxLen at hm
  have HC := hid hc
  clear hc
  have b1 := RetRow.e1 w (.cells #[.slice a cs.length cap] 25)
  have g1 := eng_cell w (.slice a cs.length cap) 25
  have HV1 := hid ((HV.out.below b1 (Nat.le_refl _)).up (B' := (w.alloc (.cells #[.slice a cs.length cap] 25)).heap.size) b1.size)
  have HB := hid b1
  have HSZ := hid (show (w.alloc (.cells #[.slice a cs.length cap] 25)).heap.size = w.heap.size + 1 by simp)
  clear b1
  cases he : EGV cs with
  | false =>
    have HF := hid (FE_no he)
    have HE := hid he
    clear he
    go_enter Tryd.func6, Tryd.ntmps6
    go_wp2_with fail
    refine (c_sEngineValid _ cs _ HV1.out hl).mono ?_
    rintro e w2 ⟨rfl, b2⟩
    rw [HE.out]
    go_wp2
    go_ret
    exact ⟨by rw [HF.out]; rfl, HB.out.trans (b2.mono HB.out.size)⟩
  | true =>
    have HF := hid (FE_yes he)
    have HE := hid he
    have hn := (EGV_iff.1 he).1
    have HJ := hid (jB_all (cs := cs) (by omega))
    clear he hl
    go_enter Tryd.func6, Tryd.ntmps6
    go_wp2_with fail
    refine (c_sEngineValid _ cs _ HV1.out (by omega)).mono ?_
    rintro e w2 ⟨rfl, b2⟩
    rw [HE.out]
    have HB2 := hid (HB.out.trans (b2.mono HB.out.size))
    have g2 := hid ((b2.cell (p := ⟨w.heap.size, 0, none⟩) (by simp)).trans g1)
    clear g1
    obtain ⟨n, hN⟩ : ∃ n, cs.length = n := ⟨_, rfl⟩
    rw [hN] at hm hn g2 ⊢
    have HN := hid hN
    clear hN
    go_wp2
    go_loopw [3, 4] (fun o i wr => ∃ j : Nat, j ≤ n ∧ i = .int .i64 j ∧ o = .string (jB cs j) ∧ Hid (wr.cell? ⟨w.heap.size, 0, none⟩ = some (.slice a n cap)) ∧ Below w.heap.size w wr) (fun _ i _ => n - (intOf i).toNat)
    case atStart => exact ⟨0, Nat.zero_le _, rfl, rfl, g2.out, HB2.out⟩
    case round =>
      obtain ⟨j, hj, rfl, rfl, HG, hbel⟩ := hrel
      have g3 := HG.out
      clear g2 b2
      by_cases hlt : j < n
      · obtain ⟨b, off, rfl, hb, hcell, hsz⟩ := HC.out j (by rw [HN.out]; exact hlt)
        have g4 := (hbel.cell (p := ⟨b, off + j, none⟩) hb).trans hcell
        have fs := (jB_size HE.out j (by rw [HN.out]; omega)).1
        have hcs := (CV_iff.1 (((EGV_iff.1 HE.out).2 j (by rw [HN.out]; omega)).1)).1
        clear hcell hsz
        have q0 : (0 : Int) ≤ (j : Int) := by omega
        have q1 : (j : Int) < n := by omega
        by_cases h0 : j = 0
        · have hp : ¬ (0 : Int) < (j : Int) := by omega
          have hp2 : ¬ 0 < j := by omega
          have z0 : ¬ 9223372036854775807 < (jB cs j).size + (tC cs j).size := by omega
          have HS := hid (show jB cs j ++ tC cs j = jB cs (j + 1) by rw [jB.eq_2, if_pos h0])
          clear h0
          go_wp2
          go_roundw
          case rel => exact ⟨j + 1, by omega, by go_num, by rw [HS.out], HG.out, hbel⟩
          case measure => simp [intOf]; omega
        · have hp : (0 : Int) < (j : Int) := by omega
          have hp2 : 0 < j := by omega
          have hs0 : ¬ (9223372036854775807 < (jB cs j).size + 1) := by omega
          have hs1 : ¬ (9223372036854775807 < (jB cs j).size + (⟨#[32]⟩ : ByteArray).size) := hs0
          have z0 : ¬ 9223372036854775807 < (jB cs j).size + 1 + (tC cs j).size := by omega
          have HS := hid (show jB cs j ++ ⟨#[32]⟩ ++ tC cs j = jB cs (j + 1) by rw [jB.eq_2, if_neg h0])
          clear h0
          go_wp2
          go_roundw
          case rel => exact ⟨j + 1, by omega, by go_num, by rw [HS.out], HG.out, hbel⟩
          case measure => simp [intOf]; omega
      · obtain rfl : j = n := by omega
        go_wp2
        go_ret
        exact ⟨by rw [HF.out, ← HJ.out, HN.out]; rfl, hbel⟩
end Go.Proofs.YtkaanlldjkflaaaDoor
