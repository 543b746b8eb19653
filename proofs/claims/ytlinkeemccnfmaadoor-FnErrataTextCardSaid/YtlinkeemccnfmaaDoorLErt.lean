/- What is proved here: the walk of laws.FnErrataText. -/
import Derived.Test.YtlinkeemccnfmaaDoorErt
import Derived.Test.YtlinkeemccnfmaaDoorPeS
import Derived.Test.YtlinkeemccnfmaaDoorPeI
set_option linter.unusedVariables false
set_option linter.unusedSimpArgs false
set_option maxRecDepth 100000
namespace Go.Proofs.YtlinkeemccnfmaaDoor
open Go.RowKit

theorem by_up {w : World} {B B' : Nat} {v : Value} {n : Nat} (h : IsBy w B v n) (hB : B ≤ B') : IsBy w B' v n := by
  obtain ⟨a, cap, rfl, hm, hc⟩ := h
  exact ⟨a, cap, rfl, hm, fun i hi => by obtain ⟨b, off, h1, h2, h3⟩ := hc i hi; exact ⟨b, off, h1, by omega, h3⟩⟩
theorem str_none : (⟨#[]⟩ : ByteArray).toList.isEmpty = true := by rw [ByteArray.toList_eq]; rfl
set_option maxHeartbeats 6400000 in
theorem w_FnErrataText (w : World) (v : Value) (nb : Nat) (hv : IsBy w w.heap.size v nb) (u : Value) (mb : Nat) (hu : IsBy w w.heap.size u mb) (hL : LibV w.heap.size w) :
    Calls Tryd.prog 5 #[v, u] w fun e w' => e = .returned (.bool true) ∧ Below w.heap.size w w' := by
  have HL := hid hL
  clear hL
  obtain ⟨a, cap, hva, hm1, hc⟩ := id hv
  obtain ⟨a2, cap2, hua, hm2, hc2⟩ := id hu
  subst hva hua
  unfold maxLen at hm1 hm2
  clear hc hc2
  by_cases hbig : 1048576 < nb
  · clear hv hu
    go_enter Tryd.func5, Tryd.ntmps5
    go_wp2_with fail
    go_ret
    exact ⟨rfl, Below.refl _ _⟩
  by_cases hbig2 : 1048576 < mb
  · clear hv hu
    go_enter Tryd.func5, Tryd.ntmps5
    go_wp2_with fail
    go_ret
    exact ⟨rfl, Below.refl _ _⟩
  · have HU := hid hu
    clear hu
    go_enter Tryd.func5, Tryd.ntmps5
    go_wp2_with fail
    refine (c_DrawFormatErrata _ _ _ hv).mono ?_
    rintro e w1 ⟨vl, zs, rfl, hzl, he, b⟩
    obtain ⟨n, ad, cd, rfl, hl, -⟩ := id he
    have HLN := hid hl.out
    have HI := hid (fun (w' : World) (hb : Below w1.heap.size w1 w') => (he.below hb (Nat.le_refl _)).up hb.size)
    have HB1 := hid b
    have s1 := b.size
    have c := Below.refl w1.heap.size w1
    have hn : n ≤ 2000 := by have := HLN.out; omega
    clear hv he b hl
    have HF1 := hid (fun W hI ht => c_iFormatErrata (.slice ad n cd) zs W.heap.size W (Nat.le_refl _) (by omega) hI ht)
    have HF2 := hid (fun W hI => c_FormatErrata (.slice ad n cd) zs W.heap.size W (Nat.le_refl _) (by omega) hI)
    cases hev : EV zs with
    | true =>
      have hR := (HI.out _ c).range
      have hn60 : n ≤ 60 := by
        rcases Nat.lt_or_ge 60 n with h | h
        · rw [EV_many HLN.out h] at hev; cases hev
        · exact h
      have hfs := FT_size HLN.out hev hR hn60
      have hEP := EP_FT HLN.out hev
      obtain ⟨T, hT⟩ : ∃ T, FT zs = T := ⟨_, rfl⟩
      rw [hT] at hfs hEP HF1 HF2
      have te := not_empty hfs.1
      have t1 : (T.toList == T.toList) = true := by simp
      have HP := hid (fun W (hW : w.heap.size ≤ W.heap.size) (hLW : LibV w.heap.size W) => c_iParseErrata T W w.heap.size (by omega) hW hLW)
      rw [hEP] at HP
      have HFS := hid hfs
      clear hev hT hR hn60 hEP hfs
      go_wp2_with fail
      refine (HF1.out _ (HI.out _ c) (HL.out.on (HB1.out.trans (c.mono s1))).1.here).mono ?_
      rintro e w2 ⟨rfl, c2⟩
      replace c := c.trans (c2.mono c.size)
      clear c2
      go_wp2_with fail
      refine (HF2.out _ (HI.out _ c)).mono ?_
      rintro e w3 ⟨rfl, c2⟩
      replace c := c.trans (c2.mono c.size)
      clear c2
      go_wp2_with fail
      refine (HP.out _ (by have := c.size; omega) (HL.out.on (HB1.out.trans (c.mono s1)))).mono ?_
      rintro e w4 ⟨v4, rfl, r4, c2⟩
      replace c := c.trans (c2.mono c.size)
      clear c2
      go_wp2_with fail
      refine (deErrs _ _ _ _ w4.heap.size w4.heap.size _ (Nat.le_refl _) (Nat.le_refl _) r4.isI (HI.out _ c)).mono ?_
      rw [show eqL ((some zs).getD []) zs = true from eqL_self zs]
      rintro e w5 ⟨rfl, n5, rfl⟩
      replace c := bel_drewN c n5
      clear r4
      have hu1 := by_up (HU.out.below (HB1.out.trans (c.mono s1)) (Nat.le_refl _)) ((HB1.out.trans (c.mono s1)).size)
      go_wp2_with fail
      refine (c_DrawParseErrata _ _ _ hu1).mono ?_
      rintro e w7 ⟨s, rfl, hs, c2⟩
      replace c := c.trans (c2.mono c.size)
      clear c2 hu1
      have HPI := hid (fun W (hW : w.heap.size ≤ W.heap.size) (hLW : LibV w.heap.size W) => c_iParseErrata s W w.heap.size (by omega) hW hLW)
      have HPS := hid (fun W => c_sParseErrata s W (by omega))
      go_wp2_with fail
      refine (HPI.out _ (by have := c.size; omega) (HL.out.on (HB1.out.trans (c.mono s1)))).mono ?_
      rintro e w8 ⟨v8, rfl, r8, c2⟩
      replace c := c.trans (c2.mono c.size)
      clear c2
      go_wp2_with fail
      refine (HPS.out _).mono ?_
      rintro e w9 ⟨v9, rfl, r9, c2⟩
      replace r8 := r8.below c2 (Nat.le_refl _)
      have s9 := c2.size
      replace c := c.trans (c2.mono c.size)
      clear c2
      go_wp2_with fail
      refine (deErrs _ _ _ _ w8.heap.size w9.heap.size _ s9 (Nat.le_refl _) r8.isI r9.isI).mono ?_
      rw [eqL_self]
      rintro e w10 ⟨rfl, n10, rfl⟩
      replace c := bel_drewN c n10
      cases hep : EP s with
      | none =>
        go_wp2
        go_ret
        exact ⟨rfl, HB1.out.trans (c.mono s1)⟩
      | some M =>
        have hlen := EP_len hep
        have hX := EP_text hep
        rw [hep] at r8
        have HF3 := hid (c_iFormatErrata v8 M w8.heap.size (w9.drewN n10) s9 (by omega) r8.isI (HL.out.on (HB1.out.trans (c.mono s1))).1.here)
        rw [hX] at HF3
        have t5 : (s.toList == s.toList) = true := by simp
        clear hX hlen hep
        go_wp2_with fail
        refine HF3.out.mono ?_
        rintro e w11 ⟨rfl, c2⟩
        replace c := c.trans (c2.mono c.size)
        clear c2
        go_wp2
        go_ret
        exact ⟨rfl, HB1.out.trans (c.mono s1)⟩
    | false =>
      have hT := FT_no hev
      rw [hT] at HF1 HF2
      have te := str_none
      clear hev hT
      go_wp2_with fail
      refine (HF1.out _ (HI.out _ c) (HL.out.on (HB1.out.trans (c.mono s1))).1.here).mono ?_
      rintro e w2 ⟨rfl, c2⟩
      replace c := c.trans (c2.mono c.size)
      clear c2
      go_wp2_with fail
      refine (HF2.out _ (HI.out _ c)).mono ?_
      rintro e w3 ⟨rfl, c2⟩
      replace c := c.trans (c2.mono c.size)
      clear c2
      have hu1 := by_up (HU.out.below (HB1.out.trans (c.mono s1)) (Nat.le_refl _)) ((HB1.out.trans (c.mono s1)).size)
      go_wp2_with fail
      refine (c_DrawParseErrata _ _ _ hu1).mono ?_
      rintro e w7 ⟨s, rfl, hs, c2⟩
      replace c := c.trans (c2.mono c.size)
      clear c2 hu1
      have HPI := hid (fun W (hW : w.heap.size ≤ W.heap.size) (hLW : LibV w.heap.size W) => c_iParseErrata s W w.heap.size (by omega) hW hLW)
      have HPS := hid (fun W => c_sParseErrata s W (by omega))
      go_wp2_with fail
      refine (HPI.out _ (by have := c.size; omega) (HL.out.on (HB1.out.trans (c.mono s1)))).mono ?_
      rintro e w8 ⟨v8, rfl, r8, c2⟩
      replace c := c.trans (c2.mono c.size)
      clear c2
      go_wp2_with fail
      refine (HPS.out _).mono ?_
      rintro e w9 ⟨v9, rfl, r9, c2⟩
      replace r8 := r8.below c2 (Nat.le_refl _)
      have s9 := c2.size
      replace c := c.trans (c2.mono c.size)
      clear c2
      go_wp2_with fail
      refine (deErrs _ _ _ _ w8.heap.size w9.heap.size _ s9 (Nat.le_refl _) r8.isI r9.isI).mono ?_
      rw [eqL_self]
      rintro e w10 ⟨rfl, n10, rfl⟩
      replace c := bel_drewN c n10
      cases hep : EP s with
      | none =>
        go_wp2
        go_ret
        exact ⟨rfl, HB1.out.trans (c.mono s1)⟩
      | some M =>
        have hlen := EP_len hep
        have hX := EP_text hep
        rw [hep] at r8
        have HF3 := hid (c_iFormatErrata v8 M w8.heap.size (w9.drewN n10) s9 (by omega) r8.isI (HL.out.on (HB1.out.trans (c.mono s1))).1.here)
        rw [hX] at HF3
        have t5 : (s.toList == s.toList) = true := by simp
        clear hX hlen hep
        go_wp2_with fail
        refine HF3.out.mono ?_
        rintro e w11 ⟨rfl, c2⟩
        replace c := c.trans (c2.mono c.size)
        clear c2
        go_wp2
        go_ret
        exact ⟨rfl, HB1.out.trans (c.mono s1)⟩
end Go.Proofs.YtlinkeemccnfmaaDoor
