/- What is proved here: the walk of laws.FnWholeProof. -/
import Derived.Test.YtlinkeemccnfmaaGreatDoorWpM
import Derived.Test.YtlinkeemccnfmaaGreatDoorDrZ
import Derived.Test.YtlinkeemccnfmaaGreatDoorSu3
import Derived.Test.YtlinkeemccnfmaaGreatDoorSu4
import Derived.Test.YtlinkeemccnfmaaGreatDoorPeI
import Derived.Test.YtlinkeemccnfmaaGreatDoorErM
import Derived.Test.YtlinkeemccnfmaaGreatDoorRws
import Derived.Test.YtlinkeemccnfmaaGreatDoorDsl2
import Derived.Test.YtlinkeemccnfmaaGreatDoorErr2
import Derived.Test.YtlinkeemccnfmaaGreatDoorLaws1
set_option linter.unusedVariables false
set_option linter.unusedSimpArgs false
set_option maxRecDepth 100000
namespace Go.Proofs.YtlinkeemccnfmaaGreatDoor
open Go.RowKit

set_option maxHeartbeats 3200000 in
theorem w_FnWholeProof (w : World) (v : Value) (nb : Nat) (hv : IsBy w w.heap.size v nb) (u : Value) (mb : Nat) (hu : IsBy w w.heap.size u mb) (hL : LibV w.heap.size w) :
    Calls Tryz.prog 3 #[v, u] w fun e w' => e = .returned (.bool true) ∧ Below w.heap.size w w' := by
  have HL := hid hL
  clear hL
  obtain ⟨a, cap, hva, hm1, hc⟩ := id hv
  obtain ⟨a2, cap2, hua, hm2, hc2⟩ := id hu
  subst hva hua
  unfold maxLen at hm1 hm2
  clear hc hc2
  by_cases hbig : 1048576 < nb
  · clear hv hu
    go_enter Tryz.func3, Tryz.ntmps3
    go_wp2_with fail
    go_ret
    exact ⟨rfl, Below.refl _ _⟩
  by_cases hbig2 : 1048576 < mb
  · clear hv hu
    go_enter Tryz.func3, Tryz.ntmps3
    go_wp2_with fail
    go_ret
    exact ⟨rfl, Below.refl _ _⟩
  · clear hu
    go_enter Tryz.func3, Tryz.ntmps3
    go_wp2_with fail
    refine (c_DrawSetUp _ _ _ hv).mono ?_
    rintro e w1 ⟨vp, p, n, wd, rfl, hpl, ⟨n0, n1⟩, ⟨d0, d1⟩, hp, b1⟩
    have s1 := b1.size
    clear hv
    obtain ⟨ap, capp, hvp⟩ : ∃ a cap, vp = .slice a p.length cap := ⟨_, _, hp.choose_spec.choose_spec.1⟩
    subst hvp
    have HP := hid (fun W (hb : Below w1.heap.size w1 W) => (hp.below hb (Nat.le_refl _)).up hb.size)
    have HB1 := hid b1
    clear b1
    go_wp2_with fail
    refine (c_iSetUp _ _ p hp n wd).mono ?_
    clear hp
    rintro e w2 ⟨aA, capA, rfl, hT1, b2⟩
    have s2 := b2.size
    have bA := RetRow.e1 w2 (.cells #[.slice aA (suC p n wd).length capA] 28)
    have eA := eng_cell w2 (.slice aA (suC p n wd).length capA) 28
    have hsA : (w2.alloc (.cells #[.slice aA (suC p n wd).length capA] 28)).heap.size = w2.heap.size + 1 := by simp
    have HPA := HP.out _ (b2.trans (bA.mono s2))
    go_wp2_with fail
    refine (c_sSetUp _ _ p HPA n wd).mono ?_
    clear HPA
    rintro e w3 ⟨aB, capB, rfl, hT2, b3⟩
    have s3 := b3.size
    rw [hsA] at s3
    have bB := RetRow.e1 w3 (.cells #[.slice aB (suC p n wd).length capB] 28)
    have eB := eng_cell w3 (.slice aB (suC p n wd).length capB) 28
    have eA3 := (bB.cell (p := ⟨w2.heap.size, 0, none⟩) (show w2.heap.size < w3.heap.size by omega)).trans ((b3.cell (p := ⟨w2.heap.size, 0, none⟩) (show w2.heap.size < _ by omega)).trans eA)
    have bb := (b2.trans (bA.mono s2)).trans ((b3.trans (bB.mono b3.size)).mono (by omega))
    have hTA := (hT1.below (bA.trans ((b3.trans (bB.mono b3.size)).mono (by omega))) (Nat.le_refl _))
    have hTB := hT2.below bB (Nat.le_refl _)
    obtain ⟨wB, hwB⟩ : ∃ x, w3.alloc (.cells #[.slice aB (suC p n wd).length capB] 28) = x := ⟨_, rfl⟩
    rw [hwB] at eB eA3 bb hTA hTB
    have hsB : wB.heap.size = w3.heap.size + 1 := by rw [← hwB]; simp
    have hg2 : w2.heap.size < wB.heap.size := by omega
    have hg3 : w3.heap.size < wB.heap.size := by omega
    have HPB := hid (fun W (hb : Below wB.heap.size wB W) => HP.out W (bb.trans (hb.mono bb.size)))
    have HTA := hid (fun W (hb : Below wB.heap.size wB W) => ((hTA.up (by omega)).below hb (Nat.le_refl _)).up hb.size)
    have HTB := hid (fun W (hb : Below wB.heap.size wB W) => ((hTB.up (by omega)).below hb (Nat.le_refl _)).up hb.size)
    have HCA := hid (fun W (hb : Below wB.heap.size wB W) => (hb.cell (p := ⟨w2.heap.size, 0, none⟩) hg2).trans eA3)
    have HCB := hid (fun W (hb : Below wB.heap.size wB W) => (hb.cell (p := ⟨w3.heap.size, 0, none⟩) hg3).trans eB)
    have HW := hid (fun W (hb : Below wB.heap.size wB W) => (HB1.out.trans (bb.mono s1)).trans (hb.mono (HB1.out.trans (bb.mono s1)).size))
    have HLB := hid (fun W (hb : Below wB.heap.size wB W) => HL.out.on (HW.out W hb))
    have HWS : w.heap.size ≤ wB.heap.size := (HB1.out.trans (bb.mono s1)).size
    clear eA eB eA3 bA bB b2 b3 bb hT1 hT2 hTA hTB s1 s2 s3 hsA hsB HP HB1 HL
    have c := Below.refl wB.heap.size wB
    have cA := HCA.out _ c
    have cB := HCB.out _ c
    have HDS := hid (fun W (hb : Below wB.heap.size wB W) => deSameE _ _ (suC p n wd) (suC p n wd) W (HTA.out W hb) (HTB.out W hb))
    obtain ⟨cs, hcs⟩ : ∃ cs, suC p n wd = cs := ⟨_, rfl⟩
    have HCS := hid hcs
    rw [hcs] at HTA HTB HCA HCB HDS cA cB hwB ⊢
    rw [decide_eq_true rfl] at HDS
    clear hcs
    go_wp2_with fail
    refine (HDS.out _ c).mono ?_
    clear cA cB hwB
    rintro e w4 ⟨rfl, c4⟩
    replace c := c.trans (c4.mono c.size)
    clear c4
    cases hok : suB p n wd with
    | false =>
      have cA := HCA.out _ c
      have cB := HCB.out _ c
      go_wp2_with fail
      refine (HDS.out _ c).mono ?_
      rintro e w5 ⟨rfl, c4⟩
      replace c := c.trans (c4.mono c.size)
      go_wp2
      go_ret
      exact ⟨rfl, HW.out _ c⟩
    | true =>
      have HOK := hid hok
      obtain ⟨hsh, hfit⟩ := suB_iff.1 hok
      have hP : PV p = true := by unfold shOk at hsh; simp only [Bool.and_eq_true] at hsh; exact hsh.1
      have hn : -200 ≤ n ∧ n ≤ 200 := by unfold shOk at hsh; simp only [Bool.and_eq_true] at hsh; exact inB_iff.1 hsh.2.1
      obtain ⟨m0, m1, -⟩ := PV_iff.1 hP
      have hwd := cofB_wd (hfit 0 (by omega))
      obtain ⟨k, rfl⟩ : ∃ k : Nat, wd = k := ⟨wd.toNat, by omega⟩
      have HCAP := hid (fun W (hb : Below wB.heap.size wB W) => c_CapacityOf W _ p (HPB.out W hb) n k hP hn (inB_yes hwd.1 hwd.2))
      have HPV := hid hP
      obtain ⟨hn0, hn1⟩ := hn
      obtain ⟨hk0, hk1⟩ := hwd
      have HLEN := hid (show cs.length = p.length by rw [← HCS.out]; exact suC_len HOK.out)
      clear hok hsh hfit hP
      go_wp2_with fail
      refine (HCAP.out _ c).mono ?_
      rintro e w5 ⟨r, rfl, ⟨r0, r1⟩, HR, c5⟩
      replace c := c.trans (c5.mono c.size)
      clear c5 HCAP
      by_cases hr : r < 12
      · have cA := HCA.out _ c
        have cB := HCB.out _ c
        go_wp2_with fail
        refine (HDS.out _ c).mono ?_
        rintro e w6 ⟨rfl, c4⟩
        replace c := c.trans (c4.mono c.size)
        go_wp2
        go_ret
        exact ⟨rfl, HW.out _ c⟩
      · obtain ⟨hcap, hfit⟩ := HR.out (by omega)
        have HF := hid (show ∀ m : Nat, m < 12 → cofB (el (riL p n) m) k = true from hfit)
        have HV := hid (show ∀ W, Below wB.heap.size wB W → Calls Tryz.prog 9 #[.slice ap p.length capp, .int .i64 n, .int .i64 12] W (RetRowB W (riL p n) true) from fun W hb => c_ValuesOfY _ p n 12 W (HPB.out W hb) HPV.out ⟨hn0, hn1⟩ (by omega) (by omega))
        clear hfit HR HCB HTB HDS
        go_wp2_with fail
        refine (HV.out _ c).mono ?_
        rintro e w6 ⟨v6, rfl, r6, c6⟩
        replace c := c.trans (c6.mono c.size)
        clear c6 HV HPB
        obtain ⟨g6, cp6, rfl, -, -, hw6⟩ := OwnI.wc r6.1 (by rw [riL_len]; omega) r6.range
        have hl6 := hw6.len
        rw [riL_len] at r6 hl6 ⊢
        obtain ⟨hl6, hl6'⟩ := hl6
        unfold maxLen at hl6'
        clear hw6
        -- the slip's column, turn and amount
        obtain ⟨L, hLL⟩ : ∃ L, cs.length = L := ⟨_, rfl⟩
        rw [hLL] at HLEN HTA HCA
        have HL2 := hid hLL
        clear hLL
        have hL0 : 1 ≤ L := by rw [HLEN.out]; exact m0
        have hL1 : L ≤ 7 := by rw [HLEN.out]; exact m1
        obtain ⟨cN, hcN⟩ : ∃ cN : Nat, (mb : Int) % (L : Int) = cN := ⟨mb % L, by simp⟩
        have hcL : cN < L := by have := Int.emod_lt_of_pos (mb : Int) (show (0 : Int) < L by omega); omega
        obtain ⟨tt, htt⟩ : ∃ t : Nat, (mb : Int) / 7 % 6 = t := ⟨mb / 7 % 6, by omega⟩
        have ht5 : tt ≤ 5 := by omega
        obtain ⟨am, ham⟩ : ∃ a : Int, (mb : Int) / 3 % 19 - 9 = a := ⟨_, rfl⟩
        have ham9 : -9 ≤ am ∧ am ≤ 9 := by omega
        obtain ⟨ham0, ham1⟩ := ham9
        have cA := HCA.out _ c
        have hRO := rs_ok12 (t := (tt : Int)) (a := am) HOK.out (show cN < p.length by rw [← HLEN.out]; exact hcL) (by omega) ⟨by omega, by omega⟩ ⟨ham0, ham1⟩
        have hSO := slip_ok12 (c := cN) (t := (tt : Int)) (a := am) (by omega) ⟨by omega, by omega⟩ ⟨ham0, ham1⟩
        rw [HCS.out] at hRO
        have HRS := hid (show ∀ W, Below wB.heap.size wB W → Calls Tryz.prog 10 #[.agg #[.slice aA L capA], .int .i64 12, .int .i64 tt, .int .i64 cN, .int .i64 am] W (RetRowB W (prL cs tt cN am) true) from fun W hb => by
          have := c_iRunWithSlip _ cs 12 tt cN am W (HTA.out W hb)
          rwa [hRO.1, hRO.2] at this)
        have HSE := hid (show ∀ W, Calls Tryz.prog 11 #[.int .i64 cN, .int .i64 tt, .int .i64 am, .int .i64 12] W (RetRowB W (slipF cN tt am 12) true) from fun W => by
          have := c_iSlipEffect W cN tt am 12
          rwa [hSO] at this)
        clear hRO
        have HEL := hid (slip12_len hSO)
        have HRB := hid (fun m hm => riL_bd HPV.out ⟨hn0, hn1⟩ m hm)
        have HEB := hid (fun m hm => slip_bd (c := cN) (t := (tt : Int)) (a := am) (by omega) ⟨by omega, by omega⟩ ⟨ham0, ham1⟩ m hm)
        have HHID := hid (fun h => whole_hidden (t := (tt : Int)) (a := am) (c := cN) HOK.out ⟨hn0, hn1⟩ hcap (by rw [← HLEN.out]; exact hcL) (by omega) (by omega) HF.out h)
        have HSHO := hid (fun hG hx hy ha htc => whole_shown (t := (tt : Int)) (a := am) (c := cN) HOK.out ⟨hn0, hn1⟩ hcap (by rw [← HLEN.out]; exact hcL) (by omega) ⟨by omega, by omega⟩ ⟨ham0, ham1⟩ HF.out hG hx hy ha htc)
        have HRL := hid (riL_len p n)
        have HPL := hid (prL_len cs tt cN am)
        rw [HCS.out] at HHID HSHO
        clear hSO HF
        obtain ⟨ri, hri⟩ : ∃ x, riL p n = x := ⟨_, rfl⟩
        rw [hri] at r6 HRB HHID HSHO HRL
        clear hri
        obtain ⟨pr, hpr⟩ : ∃ x, prL cs tt cN am = x := ⟨_, rfl⟩
        rw [hpr] at HRS HHID HSHO HPL
        clear hpr
        obtain ⟨ef, hef⟩ : ∃ x, slipF cN tt am 12 = x := ⟨_, rfl⟩
        rw [hef] at HSE HEB HSHO HEL
        clear hef
        go_wp2_with fail
        rw [hcN, htt]
        refine (HRS.out _ c).mono ?_
        clear cA HCA hcN htt ham
        rintro e w7 ⟨v7, rfl, r7, c7⟩
        replace r6 := r6.below c7 (Nat.le_refl _)
        have s7 := c7.size
        replace c := c.trans (c7.mono c.size)
        clear c7 HRS HTA
        obtain ⟨g7, cp7, rfl, -, -, hw7⟩ := OwnI.wc r7.1 (by rw [HPL.out]; omega) r7.range
        have hl7 := hw7.len
        rw [HPL.out] at r7 hl7 ⊢
        obtain ⟨hl7, hl7'⟩ := hl7
        unfold maxLen at hl7'
        clear hw7
        go_wp2_with fail
        refine (HSE.out _).mono ?_
        rintro e w8 ⟨v8, rfl, r8, c8⟩
        replace r6 := r6.below c8 s7
        replace r7 := r7.below c8 (Nat.le_refl _)
        have s8 := c8.size
        replace c := c.trans (c8.mono c.size)
        clear c8 HSE
        obtain ⟨g8, cp8, rfl, -, hg8, hw8⟩ := OwnI.wc r8.1 (by rw [HEL.out]; omega) r8.range
        obtain ⟨hl8, hl8'⟩ := hw8.len
        unfold maxLen at hl8'
        rw [HEL.out] at hl8 ⊢
        have s6 : w6.heap.size ≤ w8.heap.size := by omega
        have hg6 : g6 < w8.heap.size := by
          obtain ⟨x1, x2, x3⟩ := r6
          have := x2 g6 rfl
          omega
        -- a new base: the world after the effect
        have HW8 := hid (fun W (hb : Below w8.heap.size w8 W) => HW.out W (c.trans (hb.mono c.size)))
        have HLB8 := hid (fun W (hb : Below w8.heap.size w8 W) => HLB.out W (c.trans (hb.mono c.size)))
        have HWS8 : w.heap.size ≤ w8.heap.size := by have := c.size; omega
        have i6 := r6.isI
        have i7 := r7.isI
        have HI6 := hid (fun W (hb : Below w8.heap.size w8 W) => ((i6.up s6).below hb (Nat.le_refl _)).up hb.size)
        have HI7 := hid (fun W (hb : Below w8.heap.size w8 W) => ((i7.up s8).below hb (Nat.le_refl _)).up hb.size)
        have o6 := r6.1
        rw [HRL.out] at o6
        have HC6 := hid (fun W (hb : Below w8.heap.size w8 W) j (hj : j < 12) => (hb.cell (p := ⟨g6, j, none⟩) hg6).trans ((own_cell o6 j hj).trans (map_int_at ri j (by rw [HRL.out]; exact hj))))
        clear o6
        have HC8 := hid (fun W (hb : Below w8.heap.size w8 W) j (hj : j < 12) => (hb.cell (p := ⟨g8, j, none⟩) hg8).trans (hw8.cell0 j (by rw [HEL.out]; exact hj)))
        clear r6 r7 r8 i6 i7 hw8 s6 s7 s8 HW HLB
        clear c
        have c := Below.refl w8.heap.size w8
        go_wp2_with fail
        go_loopw [22, 23] (fun f i wr => ∃ (j : Nat) (fl : Bool), j ≤ 12 ∧ i = .int .i64 j ∧ f = .bool fl ∧ Hid (fl = true → ∀ m : Nat, m < j → cofB (el ri m + el ef m) k = true) ∧ Below w8.heap.size w8 wr) (fun _ i _ => 12 - (intOf i).toNat)
        case atStart => exact ⟨0, true, Nat.zero_le _, rfl, rfl, fun _ m hm => by omega, c⟩
        case round =>
          clear c
          obtain ⟨j, fl, hj, rfl, rfl, HFL, hbel⟩ := hrel
          have hbs := hbel.size
          by_cases hlt : j < 12
          · have g0 := HC6.out _ hbel j hlt
            have g1 := HC8.out _ hbel j hlt
            have hr1 := HRB.out j hlt
            have he1 := HEB.out j hlt
            obtain ⟨x0, x1⟩ := hr1
            obtain ⟨y0, y1⟩ := he1
            have k1 : IntKind.i64.wrap (el ri j + el ef j) = el ri j + el ef j := IntWalk.i64_in _ (by omega)
            have q1 : (j : Int) < 12 := by omega
            have q2 : (j : Int) < cp6 := by omega
            have q3 : (j : Int) < cp8 := by omega
            clear HW8 HLB8 HI6 HI7 HHID HSHO HC6 HC8
            go_wp2_with fail
            refine wp_region_held_drew (S := fun w' => w'.cell? ⟨g6, j, none⟩ = some (.int .i64 (el ri j)) ∧ w'.cell? ⟨g8, j, none⟩ = some (.int .i64 (el ef j))) (by kernel_rfl) ?_ (fun hHeld => ?_)
            focus (exact ⟨g0, g1⟩)
            refine take_at (i := 0) (d := some 137) (v := ?_) rfl rfl (by kernel_rfl) (by kernel_rfl) (by kernel_rfl) ?_ (Or.inl ⟨by rfl, ?_⟩) (by assumption) ?_
            rotate_left
            exact fun _ _ _ h => h
            focus (intro w hSw; (try dsimp only at hSw); go_simp; (try with_reducible rfl); done)
            (try simp only [Act.put, List.setIfInBounds_toArray, List.set_cons_zero, List.set_cons_succ])
            refine take_at (i := 1) (d := some 138) (v := ?_) rfl rfl (by kernel_rfl) (by kernel_rfl) (by kernel_rfl) ?_ (Or.inl ⟨by rfl, ?_⟩) (by assumption) ?_
            rotate_left
            exact fun _ _ _ h => h
            focus (intro w hSw; (try dsimp only at hSw); go_simp; (try with_reducible rfl); done)
            (try simp only [Act.put, List.setIfInBounds_toArray, List.set_cons_zero, List.set_cons_succ])
            refine take_at (i := 2) (d := some 139) (v := ?_) rfl rfl (by kernel_rfl) (by kernel_rfl) (by kernel_rfl) ?_ (Or.inl ⟨by rfl, ?_⟩) (by assumption) ?_
            rotate_left
            exact fun _ _ _ h => h
            focus (intro w hSw; (try dsimp only at hSw); go_simp; (try with_reducible rfl); done)
            (try simp only [Act.put, List.setIfInBounds_toArray, List.set_cons_zero, List.set_cons_succ])
            refine take_at (i := 3) (d := some 140) (v := ?_) rfl rfl (by kernel_rfl) (by kernel_rfl) (by kernel_rfl) ?_ (Or.inl ⟨by rfl, ?_⟩) (by assumption) ?_
            rotate_left
            exact fun _ _ _ h => h
            focus (intro w hSw; (try dsimp only at hSw); go_simp; (try with_reducible rfl); done)
            (try simp only [Act.put, List.setIfInBounds_toArray, List.set_cons_zero, List.set_cons_succ])
            refine take_at (i := 4) (d := some 141) (v := ?_) rfl rfl (by kernel_rfl) (by kernel_rfl) (by kernel_rfl) ?_ (Or.inl ⟨by rfl, ?_⟩) (by assumption) ?_
            rotate_left
            exact fun _ _ _ h => h
            focus (intro w hSw; (try dsimp only at hSw); go_simp; (try with_reducible rfl); done)
            (try simp only [Act.put, List.setIfInBounds_toArray, List.set_cons_zero, List.set_cons_succ])
            refine take_at (i := 5) (d := some 142) (v := ?_) rfl rfl (by kernel_rfl) (by kernel_rfl) (by kernel_rfl) ?_ (Or.inl ⟨by rfl, ?_⟩) (by assumption) ?_
            rotate_left
            exact fun _ _ _ h => h
            focus (intro w hSw; (try dsimp only at hSw); go_simp; (try with_reducible rfl); done)
            (try simp only [Act.put, List.setIfInBounds_toArray, List.set_cons_zero, List.set_cons_succ])
            refine take_at (i := 6) (d := some 143) (v := ?_) rfl rfl (by kernel_rfl) (by kernel_rfl) (by kernel_rfl) ?_ (Or.inl ⟨by rfl, ?_⟩) (by assumption) ?_
            rotate_left
            exact fun _ _ _ h => h
            focus (intro w hSw; (try dsimp only at hSw); go_simp; (try with_reducible rfl); done)
            (try simp only [Act.put, List.setIfInBounds_toArray, List.set_cons_zero, List.set_cons_succ])
            refine take_at (i := 7) (d := some 144) (v := ?_) rfl rfl (by kernel_rfl) (by kernel_rfl) (by kernel_rfl) ?_ (Or.inl ⟨by rfl, ?_⟩) (by assumption) ?_
            rotate_left
            exact fun _ _ _ h => h
            focus (intro w hSw; (try dsimp only at hSw); go_simp; (try with_reducible rfl); done)
            (try simp only [Act.put, List.setIfInBounds_toArray, List.set_cons_zero, List.set_cons_succ])
            refine take_at (i := 8) (d := some 145) (v := ?_) rfl rfl (by kernel_rfl) (by kernel_rfl) (by kernel_rfl) ?_ (Or.inl ⟨by rfl, ?_⟩) (by assumption) ?_
            rotate_left
            exact fun _ _ _ h => h
            focus (intro w hSw; (try dsimp only at hSw); go_simp; (try with_reducible rfl); done)
            (try simp only [Act.put, List.setIfInBounds_toArray, List.set_cons_zero, List.set_cons_succ])
            refine wpAnyH_ready (rs := [9]) (by kernel_rfl) (by simp) ?_
            refine AllReadyH.cons (o := _) rfl (fun K hK => ?_) AllReadyH.nil
            go_simp
            refine (c_iWidthFor (el ri j + el ef j) _).mono ?_
            rintro e w5 ⟨r, rfl, hr12, hrf, c5⟩
            have d5 := (Below.refl wr.heap.size wr).drew.trans c5
            refine hK.out _ _ ?_ (fun hHeld => ?_)
            focus (exact ⟨(d5.cell (p := ⟨g6, j, none⟩) (show g6 < wr.heap.size by omega)).trans g0, (d5.cell (p := ⟨g8, j, none⟩) (show g8 < wr.heap.size by omega)).trans g1⟩)
            clear hK
            (try simp only [Act.put, List.setIfInBounds_toArray, List.set_cons_zero, List.set_cons_succ])
            refine take_at (i := 10) (d := some 24) (v := ?_) rfl rfl (by kernel_rfl) (by kernel_rfl) (by kernel_rfl) ?_ (Or.inl ⟨by rfl, ?_⟩) (by assumption) ?_
            rotate_left
            exact fun _ _ _ h => h
            focus (intro w hSw; (try dsimp only at hSw); go_simp; (try with_reducible rfl); done)
            (try simp only [Act.put, List.setIfInBounds_toArray, List.set_cons_zero, List.set_cons_succ])
            refine wpAnyH_done (by kernel_rfl) ?_ _
            have hb5 := hbel.trans (d5.mono hbs)
            have HRF := hid hrf
            clear hrf g0 g1 d5 c5 hHeld hbel
            cases fl with
            | false =>
              go_wp2
              go_roundw
              case rel => exact ⟨j + 1, false, by omega, by go_num, rfl, (fun h m hm => by cases h), hb5⟩
              case measure => simp [intOf]; omega
            | true =>
              by_cases z1 : (0 : Int) < r
              · by_cases z2 : (r : Int) ≤ k
                · go_wp2
                  go_roundw
                  case rel =>
                    refine ⟨j + 1, true, by omega, by go_num, rfl, fun h m hm => ?_, hb5⟩
                    by_cases e : m = j
                    · subst e; exact cofB_mono (HRF.out (by omega)) (by omega) (by omega)
                    · exact HFL.out h m (by omega)
                  case measure => simp [intOf]; omega
                · go_wp2
                  go_roundw
                  case rel => exact ⟨j + 1, false, by omega, by go_num, rfl, (fun h m hm => by cases h), hb5⟩
                  case measure => simp [intOf]; omega
              · go_wp2
                go_roundw
                case rel => exact ⟨j + 1, false, by omega, by go_num, rfl, (fun h m hm => by cases h), hb5⟩
                case measure => simp [intOf]; omega
          · obtain rfl : j = 12 := by omega
            clear HC6 HC8 HRB HEB
            cases hx : TB ri with
            | false =>
              go_wp2_with fail
              refine (c_iTableValid _ ri _ _ (HI6.out _ hbel)).mono ?_
              rw [hx]
              rintro e wx ⟨rfl, rfl⟩
              go_wp2
              go_ret
              exact ⟨rfl, HW8.out _ hbel⟩
            | true =>
              go_wp2_with fail
              refine (c_iTableValid _ ri _ _ (HI6.out _ hbel)).mono ?_
              rw [hx]
              rintro e wx ⟨rfl, rfl⟩
              cases hy : TB pr with
              | false =>
                go_wp2_with fail
                refine (c_iTableValid _ pr _ _ (HI7.out _ hbel)).mono ?_
                rw [hy]
                rintro e wx ⟨rfl, rfl⟩
                go_wp2
                go_ret
                exact ⟨rfl, HW8.out _ hbel⟩
              | true =>
                have HX := hid hx
                have HY := hid hy
                have hal := al_two hx hy (by rw [HRL.out, HPL.out])
                have HAR := hid (er_right hal)
                have HEO := hid (show ∀ W, Below w8.heap.size w8 W → Calls Tryz.prog 14 #[.slice (some ⟨g6, 0, none⟩) 12 cp6, .slice (some ⟨g7, 0, none⟩) 12 cp7] W (RetErrB W (erF ri pr) true) from fun W hb => by
                  have := c_iErrataOf W _ ri (HI6.out W hb) _ pr (HI7.out W hb)
                  rwa [hal] at this)
                have hEV := erF_ev ri pr
                have hSH := erF_short hal
                have HSAME := hid (fun (h : pr = ri) => show erF ri pr = [] by rw [h]; exact er_self)
                clear hal hx
                go_wp2_with fail
                refine (c_iTableValid _ pr _ _ (HI7.out _ hbel)).mono ?_
                rw [hy]
                rintro e wx ⟨rfl, rfl⟩
                clear hy
                obtain ⟨zs, hzs⟩ : ∃ z, erF ri pr = z := ⟨_, rfl⟩
                rw [hzs] at HEO hEV hSH HAR HSAME
                clear hzs
                obtain ⟨nE, hnE, hnE2⟩ := hSH
                have HNE := hid hnE
                rw [HRL.out] at hnE2
                have HEV := hid hEV
                clear hEV hnE
                go_wp2_with fail
                refine (HEO.out _ hbel).mono ?_
                clear HEO
                rintro e w10 ⟨v10, rfl, r10, c10⟩
                replace hbel := hbel.trans (c10.mono hbs)
                have hbs2 := hbel.size
                clear c10
                have HEP := hid (EP_FT HNE.out HEV.out)
                have HFS := hid (FT_size HNE.out HEV.out r10.range (by omega))
                have hE10 := r10.isI
                obtain ⟨n10, hn10, ho10, -⟩ := id r10
                obtain ⟨a10, p10, rfl⟩ := own_form ho10
                obtain rfl : n10 = nE := by have h1 := hn10.out; have h2 := HNE.out; omega
                have HI10 := hid (fun W (hb : Below w10.heap.size w10 W) => (hE10.below hb (Nat.le_refl _)).up hb.size)
                clear r10 ho10 hE10 hn10
                have HFE := hid (show ∀ W, Below w10.heap.size w10 W → LibV w.heap.size W → Calls Tryz.prog 16 #[.slice a10 n10 p10] W (fun e w' => e = .returned (.string (FT zs)) ∧ Below W.heap.size W w') from fun W hb hlv => c_iFormatErrata _ zs W.heap.size W (Nat.le_refl _) (by have := HNE.out; omega) (HI10.out W hb) hlv.1.here)
                have HPE := hid (show ∀ W, w.heap.size ≤ W.heap.size → LibV w.heap.size W → Calls Tryz.prog 15 #[.string (FT zs)] W (RetErrB W zs true) from fun W hb hlv => by
                  have := c_iParseErrata (FT zs) W w.heap.size (by have := HFS.out.2; omega) hb hlv
                  rwa [HEP.out] at this)
                clear HEP HFS
                obtain ⟨ft, hft⟩ : ∃ x, FT zs = x := ⟨_, rfl⟩
                rw [hft] at HFE HPE
                clear hft
                have c := Below.refl w10.heap.size w10
                go_wp2_with fail
                refine (HFE.out _ c (HLB8.out _ hbel)).mono ?_
                rintro e w11 ⟨rfl, c11⟩
                replace c := c.trans (c11.mono c.size)
                clear c11
                go_wp2_with fail
                refine (HPE.out _ (by have := c.size; omega) (HLB8.out _ (hbel.trans (c.mono hbs2)))).mono ?_
                rintro e w12 ⟨v12, rfl, r12, c12⟩
                replace c := c.trans (c12.mono c.size)
                clear c12 HFE HPE HLB8
                go_wp2_with fail
                have hAP := c_iApplyErrata w12 _ pr (HI7.out _ (hbel.trans (c.mono hbs2))) v12 zs r12.isI
                rw [HAR.out.1, HAR.out.2] at hAP
                refine hAP.mono ?_
                clear hAP HAR r12
                rintro e w13 ⟨v13, rfl, r13, c13⟩
                replace c := c.trans (c13.mono c.size)
                clear c13
                obtain ⟨g13, cp13, rfl, -, hg13, -⟩ := OwnI.wc r13.1 (by rw [HRL.out]; omega) r13.range
                rw [HRL.out] at r13 ⊢
                have b13 := hbel.trans (c.mono hbs2)
                have HDG := hid (c_iDiagnoseSlip w13 _ ri (HI6.out _ b13) _ pr (HI7.out _ b13))
                have HI13 := hid (fun W (hb : Below w13.heap.size w13 W) => (r13.isI.below hb (Nat.le_refl _)).up hb.size)
                have b13s := b13.size
                clear r13 HI7 hg13 c
                have k3 : IntKind.i64.wrap ((tt : Int) + cN) = (tt : Int) + cN := IntWalk.i64_in _ (by omega)
                have k4 : IntKind.i64.wrap ((tt : Int) + cN + 1) = (tt : Int) + cN + 1 := IntWalk.i64_in _ (by omega)
                by_cases hh : am = 0 ∨ 12 ≤ (tt : Int) + cN
                · have hpr := HHID.out hh
                  have hz := HSAME.out hpr
                  have hD : diag ri pr = (0, 0, 0, false) := by rw [hpr]; exact diag_same
                  rw [hD] at HDG
                  have hn0' : n10 = 0 := by have h2 := HNE.out; rw [hz] at h2; simp at h2; omega
                  subst hn0'
                  clear hD HSAME HHID HSHO hpr hz HNE HEV
                  go_wp2_with fail
                  refine HDG.out.mono ?_
                  clear HDG
                  rintro e w14 ⟨rfl, c14⟩
                  have b14 := b13.trans (c14.mono b13s)
                  go_wp2_with fail
                  refine (deSm _ _ ri _ _ _ (HI13.out _ c14) (HI6.out _ b14)).mono ?_
                  rintro e w15 ⟨rfl, n15, rfl⟩
                  have b15 := bel_drewN b14 n15
                  by_cases h1 : am = 0
                  · subst h1
                    go_wp2
                    go_ret
                    exact ⟨rfl, HW8.out _ b15⟩
                  · have h2 : 12 ≤ (tt : Int) + cN := hh.resolve_left h1
                    have h1' : (am == 0) = false := by simpa using h1
                    go_wp2
                    go_ret
                    exact ⟨rfl, HW8.out _ b15⟩
                · have h1 : ¬ am = 0 := fun h => hh (.inl h)
                  have h2 : (tt : Int) + cN < 12 := by omega
                  have h1' : (am == 0) = false := by simpa using h1
                  have h3 : ¬ 12 ≤ (tt : Int) + cN := by omega
                  cases fl with
                  | false =>
                    generalize diag ri pr = dg at HDG
                    obtain ⟨x1, x2, x3, x4⟩ := dg
                    clear hh HSAME HHID HSHO HNE HEV
                    go_wp2_with fail
                    refine HDG.out.mono ?_
                    clear HDG
                    rintro e w14 ⟨rfl, c14⟩
                    have b14 := b13.trans (c14.mono b13s)
                    go_wp2_with fail
                    refine (deSm _ _ ri _ _ _ (HI13.out _ c14) (HI6.out _ b14)).mono ?_
                    rintro e w15 ⟨rfl, n15, rfl⟩
                    have b15 := bel_drewN b14 n15
                    go_wp2
                    go_ret
                    exact ⟨rfl, HW8.out _ b15⟩
                  | true =>
                    obtain ⟨c', hD, hc'⟩ := HSHO.out (fun m hm => HFL.out rfl m hm) HX.out HY.out h1 h2
                    rw [hD] at HDG
                    clear hh HSAME HHID HSHO HNE HEV hD HFL
                    have t1 : (am == am) = true := by simp
                    go_wp2_with fail
                    refine HDG.out.mono ?_
                    clear HDG
                    rintro e w14 ⟨rfl, c14⟩
                    have b14 := b13.trans (c14.mono b13s)
                    go_wp2_with fail
                    refine (deSm _ _ ri _ _ _ (HI13.out _ c14) (HI6.out _ b14)).mono ?_
                    rintro e w15 ⟨rfl, n15, rfl⟩
                    have b15 := bel_drewN b14 n15
                    by_cases h4 : (tt : Int) + cN + 1 < 12
                    · obtain rfl : c' = cN := by have := hc' h4; omega
                      have t2 : ((tt : Int) + c' - c' == tt) = true := by simp
                      have h5 : ¬ 12 ≤ (tt : Int) + c' + 1 := by omega
                      go_wp2
                      go_ret
                      exact ⟨by simp, HW8.out _ b15⟩
                    · have h5 : 12 ≤ (tt : Int) + cN + 1 := by omega
                      go_wp2
                      go_ret
                      exact ⟨by simp, HW8.out _ b15⟩
end Go.Proofs.YtlinkeemccnfmaaGreatDoor
