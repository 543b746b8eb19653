/- What is proved here: the walk of laws.FnCarriesOf. -/
import Derived.Test.YtkaanlldjkflaaaCar3
import Derived.Test.YtkaanlldjkflaaaSlr2
set_option linter.unusedVariables false
set_option linter.unusedSimpArgs false
set_option maxRecDepth 100000
namespace Go.Proofs.Ytkaanlldjkflaaa
open Go.RowKit

theorem engNS {w : World} {g n c : Nat} {a : Option Addr} {t : TypeId} (hg : w.heap[g]? = some (.cells #[.slice a n c] t (0, 0))) : ∀ o s, w.cell? ⟨g, o, none⟩ ≠ some (.string s) := by
  intro o s h
  rw [row_cell hg] at h
  cases o with
  | zero => simp at h
  | succ o => simp at h
/-- What is left by a call that draws an engine. -/
def EngNew (w : World) (e : Ending) (w' : World) : Prop :=
  ∃ (a : Option Addr) (cap : Nat) (cs : List ByteArray), e = .returned (.agg #[.slice a cs.length cap]) ∧ IsT w' w'.heap.size (.slice a cs.length cap) cs ∧ cs.length ≤ 8 ∧ Below w.heap.size w w'
theorem c_DrawCarriesOf (w : World) (v : Value) (nb : Nat) (hv : IsBy w w.heap.size v nb) :
    Calls Try.prog 26 #[v] w (EngNew w) := by
  have b1 := RetRow.e1 w (.cells #[.slice none 0 0] 27)
  have g0 := eng_alloc w (.slice none 0 0) 27
  have hv1 := IsBy.upE (hv.below b1 (Nat.le_refl _)) b1.size
  obtain ⟨wA, hwA⟩ : ∃ x, w.alloc (.cells #[.slice none 0 0] 27) = x := ⟨_, rfl⟩
  rw [hwA] at g0 b1 hv1
  obtain ⟨gP, hgP⟩ : ∃ x, w.heap.size = x := ⟨_, rfl⟩
  have hwP : w.heap.size ≤ gP := by omega
  rw [hgP] at g0
  have hPl := (Array.getElem?_eq_some_iff.1 g0).1
  have HP := hid g0
  clear g0 hv
  go_enter Try.func26, Try.ntmps26
  go_wp2_with fail
  (try clear hwA)
  (try clear hgP)
  refine (c_l9Open _ _ _ hv1).mono ?_
  rintro e w1 ⟨rfl, r, c, sz1⟩
  have s1 := c.size
  obtain ⟨g, hg⟩ : ∃ x, wA.heap.size = x := ⟨_, rfl⟩
  have hgA : wA.heap.size ≤ g := by omega
  have hAg : g ≤ wA.heap.size := by omega
  rw [hg] at r
  have hgl := r.lt
  replace HP := hid ((c.block gP (by omega)).trans HP.out)
  replace b1 := b1.trans (c.mono b1.size)
  clear c hv1 sz1
  rw [hg]
  clear hg
  go_wp2_with fail
  refine (c_l3Open _ g g 0 (by omega) r).mono ?_
  clear r
  rintro e w2 ⟨ga, ca, cs, rfl, ra, hga, ha8, r, c⟩
  have s2 := c.size
  replace HP := hid ((c.block gP (by omega) (by omega)).trans HP.out)
  replace b1 := b1.trans (c.below (by omega) (by omega))
  clear c
  have HRA := hid (ra.isT)
  have hal := ra.lt.2.2
  have c0 := row_cell HP.out 0
  have f0 := row_free HP.out 0
  have HF := hid (row_set HP.out 0 (.slice (some ⟨ga, 0, none⟩) cs.length ca))
  have HB := hid b1
  clear ra r b1
  go_wp2
  (try simp only [Exit.inBlock, Exit.then])
  refine bodyPost_eng rfl rfl (by rfl) HF.out ?_
  exact ⟨some ⟨ga, 0, none⟩, ca, cs, rfl, (HRA.out.setNS (engNS HP.out)).up (by simp; omega), ha8, HB.out.setCell (p := ⟨gP, 0, none⟩) hwP _⟩
set_option maxHeartbeats 6400000 in
theorem w_FnCarriesOf (w : World) (v : Value) (nb : Nat) (hv : IsBy w w.heap.size v nb) :
    Calls Try.prog 7 #[v] w fun e w' => e = .returned (.bool true) ∧ Below w.heap.size w w' := by
  obtain ⟨a, cap, hva, hm1, hc⟩ := id hv
  subst hva
  unfold maxLen at hm1
  clear hc
  by_cases hbig : 1048576 < nb
  · clear hv
    go_enter Try.func7, Try.ntmps7
    go_wp2_with fail
    go_ret
    exact ⟨rfl, Below.refl _ _⟩
  · go_enter Try.func7, Try.ntmps7
    go_wp2_with fail
    refine (c_DrawCarriesOf _ _ _ hv).mono ?_
    rintro e w1 ⟨ax, cx, cs, rfl, hx, hcl, b1⟩
    have s1 := b1.size
    clear hv
    have bX := RetRow.e1 w1 (.cells #[.slice ax cs.length cx] 27)
    have x0 := eng_cell w1 (.slice ax cs.length cx) 27
    have hxB := (hx.below bX (Nat.le_refl _)).up bX.size
    have b5 := b1.trans (bX.mono s1)
    obtain ⟨wB, hwB⟩ : ∃ y, w1.alloc (.cells #[.slice ax cs.length cx] 27) = y := ⟨_, rfl⟩
    rw [hwB] at x0 hxB b5
    have l0 := World.block_lt_of_cell? _ _ x0
    have HK := hid (fun (w' : World) (hb : Below wB.heap.size wB w') => (hb.cell (p := ⟨w1.heap.size, 0, none⟩) l0).trans x0)
    have HI := hid (fun (w' : World) (hb : Below wB.heap.size wB w') => (hxB.below hb (Nat.le_refl _)).up hb.size)
    have hlc : cs.length ≤ 1048576 := by omega
    have s5 := b5.size
    have HB5 := hid b5
    have b := Below.refl wB.heap.size wB
    clear hx bX l0 b1 hxB b5 hcl
    cases he : EGV cs with
    | false =>
      have HE := hid he
      have HR := hid (crF_no he)
      have t1 : ((-1 : Int) != -1) = false := by decide
      clear he
      go_wp2_with fail
      clear hwB x0
      refine (c_iCarriesOf _ cs _ (HI.out _ b)).mono ?_
      rw [HR.out]
      rintro e w2 ⟨rfl, c⟩
      replace b := b.trans (c.mono b.size)
      clear c
      have x0 := HK.out _ b
      go_wp2_with fail
      clear x0
      refine (c_sCarriesOf _ cs _ (HI.out _ b) hlc).mono ?_
      rw [HR.out]
      rintro e w3 ⟨rfl, c⟩
      replace b := b.trans (c.mono b.size)
      clear c
      have x0 := HK.out _ b
      go_wp2_with fail
      clear x0
      refine (c_iEngineValid _ cs _ (HI.out _ b)).mono ?_
      rw [HE.out]
      rintro e w4 ⟨rfl, c⟩
      replace b := b.trans (c.mono b.size)
      clear c
      have x0 := HK.out _ b
      go_wp2_with fail
      clear x0
      refine (c_sCarriesOf _ cs _ (HI.out _ b) hlc).mono ?_
      rw [HR.out]
      rintro e w5 ⟨rfl, c⟩
      replace b := b.trans (c.mono b.size)
      clear c
      have x0 := HK.out _ b
      go_wp2_with fail
      clear x0
      refine (c_iEngineValid _ cs _ (HI.out _ b)).mono ?_
      rw [HE.out]
      rintro e w6 ⟨rfl, c⟩
      replace b := b.trans (c.mono b.size)
      clear c
      go_wp2
      go_ret
      exact ⟨rfl, HB5.out.trans (b.mono s5)⟩
    | true =>
      have HE := hid he
      have HR := hid (crF_yes he)
      obtain ⟨⟨n1, n7⟩, hcs⟩ := EGV_iff.1 he
      have HCS := hid hcs
      have hz0 := (CV_iff.1 (hcs 0 (by omega)).1).1
      obtain ⟨N, hN⟩ : ∃ N, mxC cs (cs.length - 1) = N := ⟨_, rfl⟩
      have HGE := hid (fun i (hi : i < cs.length - 1) => (show ctN (tC cs i) (tC cs (i + 1)) ≤ N by rw [← hN]; exact mxC_ge hi))
      have HSM := hid (show N = 0 ∨ ∃ i, i < cs.length - 1 ∧ ctN (tC cs i) (tC cs (i + 1)) = N by rw [← hN]; exact mxC_some _)
      have hNle : N ≤ (tC cs 0).size := by
        rw [← hN]; exact mxC_le _ fun i hi => Nat.le_of_eq (hcs i (by omega)).2
      rw [hN] at HR
      have t1 : ((N : Int) != N) = false := by simp
      have t2 : ¬ (N : Int) < 0 := by omega
      have t3 : (N : Int) ≥ 0 := by omega
      clear he hcs hN
      go_wp2_with fail
      clear hwB x0
      refine (c_iCarriesOf _ cs _ (HI.out _ b)).mono ?_
      rw [HR.out]
      rintro e w2 ⟨rfl, c⟩
      replace b := b.trans (c.mono b.size)
      clear c
      have x0 := HK.out _ b
      go_wp2_with fail
      clear x0
      refine (c_sCarriesOf _ cs _ (HI.out _ b) hlc).mono ?_
      rw [HR.out]
      rintro e w3 ⟨rfl, c⟩
      replace b := b.trans (c.mono b.size)
      clear c
      have x0 := HK.out _ b
      go_wp2_with fail
      clear x0
      refine (c_iEngineValid _ cs _ (HI.out _ b)).mono ?_
      rw [HE.out]
      rintro e w4 ⟨rfl, c⟩
      have B4 := hid (b.trans (c.mono b.size))
      clear c b
      have HQ0 := hid (show ((N : Int) == 0) = true ↔ (N = 0 ∨ ∃ i, i < 0 ∧ ctN (tC cs i) (tC cs (i + 1)) = N) by
        by_cases h : N = 0 <;> simp [h])
      go_wp2
      go_loopw [5, 6] (fun x i wr => ∃ (j : Nat) (X : Bool), j ≤ cs.length - 1 ∧ i = .int .i64 j ∧ x = .bool X ∧ Hid (X = true ↔ (N = 0 ∨ ∃ i, i < j ∧ ctN (tC cs i) (tC cs (i + 1)) = N)) ∧ Below wB.heap.size wB wr) (fun _ i _ => cs.length - (intOf i).toNat)
      case atStart => exact ⟨0, (N : Int) == 0, Nat.zero_le _, rfl, rfl, HQ0.out, B4.out⟩
      case round =>
        obtain ⟨j, X, hj, rfl, rfl, HX, hb⟩ := hrel
        have x0 := HK.out _ hb
        obtain ⟨aI, cI, hvI, -, hcI⟩ := HI.out _ hb
        simp only [Value.slice.injEq, true_and] at hvI
        obtain ⟨rfl, rfl⟩ := hvI
        by_cases hlt : j + 1 < cs.length
        · obtain ⟨bk, off, rfl, hbk, g0, -⟩ := hcI j (by omega)
          obtain ⟨bk2, off2, e2, hbk2, g1, -⟩ := hcI (j + 1) hlt
          simp only [Option.some.injEq, Addr.mk.injEq, and_true] at e2
          obtain ⟨rfl, rfl⟩ := e2
          have q0 : (0 : Int) ≤ (j : Int) := by omega
          have q1 : (j : Int) < cs.length := by omega
          have q2 : (j : Int) + 1 < cs.length := by omega
          have q3 : (0 : Int) ≤ (j : Int) + 1 := by omega
          have q4 : ((j : Int) + 1).toNat = j + 1 := by omega
          have q5 : IntKind.i64.wrap ((j : Int) + 1) = (j : Int) + 1 := IntWalk.i64_in _ (by omega)
          have q6 : j + 1 < cs.length := hlt
          have q7 : j < cs.length := by omega
          have hv1 := HCS.out j (by omega)
          have hv2 := HCS.out (j + 1) hlt
          have HCT := hid (fun W => c_iCarryTimes (tC cs j) (tC cs (j + 1)) hv1.1 hv2.1 (hv1.2.trans hv2.2.symm) W)
          have hct := HGE.out j (by omega)
          have HST := hid (show (∃ i, i < j + 1 ∧ ctN (tC cs i) (tC cs (i + 1)) = N) ↔ ((∃ i, i < j ∧ ctN (tC cs i) (tC cs (i + 1)) = N) ∨ ctN (tC cs j) (tC cs (j + 1)) = N) from
            ⟨fun ⟨i, hi, h⟩ => by
              by_cases e : i = j
              · subst e; exact .inr h
              · exact .inl ⟨i, by omega, h⟩,
            fun h => h.elim (fun ⟨i, hi, h⟩ => ⟨i, by omega, h⟩) (fun h => ⟨j, by omega, h⟩)⟩)
          obtain ⟨M, hM⟩ : ∃ M, ctN (tC cs j) (tC cs (j + 1)) = M := ⟨_, rfl⟩
          rw [hM] at HCT hct HST
          have t4 : ¬ (M : Int) > (N : Int) := by omega
          have t5 : ((M : Int) == (N : Int)) = decide (M = N) := by by_cases h : M = N <;> simp [h] <;> omega
          clear hM hv1 hv2 hcI
          go_wp2_with fail
          refine wp_region_held_drew (S := fun w' => w'.cell? ⟨w1.heap.size, 0, none⟩ = some (.slice (some ⟨bk, off, none⟩) cs.length cx) ∧ w'.cell? ⟨bk, off + j, none⟩ = some (.string (tC cs j)) ∧ w'.cell? ⟨bk, off + (j + 1), none⟩ = some (.string (tC cs (j + 1)))) (by kernel_rfl) ?_ (fun hHeld => ?_)
          focus (exact ⟨x0, g0, g1⟩)
          refine take_at (i := 0) (d := some 51) (v := ?_) rfl rfl (by kernel_rfl) (by kernel_rfl) (by kernel_rfl) ?_ (Or.inl ⟨by rfl, ?_⟩) (by assumption) ?_
          rotate_left
          exact fun _ _ _ h => h
          focus (intro w hSw; (try dsimp only at hSw); go_simp; (try with_reducible rfl); done)
          (try simp only [Act.put, List.setIfInBounds_toArray, List.set_cons_zero, List.set_cons_succ])
          refine take_at (i := 1) (d := some 52) (v := ?_) rfl rfl (by kernel_rfl) (by kernel_rfl) (by kernel_rfl) ?_ (Or.inl ⟨by rfl, ?_⟩) (by assumption) ?_
          rotate_left
          exact fun _ _ _ h => h
          focus (intro w hSw; (try dsimp only at hSw); go_simp; (try with_reducible rfl); done)
          (try simp only [Act.put, List.setIfInBounds_toArray, List.set_cons_zero, List.set_cons_succ])
          refine take_at (i := 2) (d := some 53) (v := ?_) rfl rfl (by kernel_rfl) (by kernel_rfl) (by kernel_rfl) ?_ (Or.inl ⟨by rfl, ?_⟩) (by assumption) ?_
          rotate_left
          exact fun _ _ _ h => h
          focus (intro w hSw; (try dsimp only at hSw); go_simp; (try with_reducible rfl); done)
          (try simp only [Act.put, List.setIfInBounds_toArray, List.set_cons_zero, List.set_cons_succ])
          refine take_at (i := 3) (d := some 54) (v := ?_) rfl rfl (by kernel_rfl) (by kernel_rfl) (by kernel_rfl) ?_ (Or.inl ⟨by rfl, ?_⟩) (by assumption) ?_
          rotate_left
          exact fun _ _ _ h => h
          focus (intro w hSw; (try dsimp only at hSw); go_simp; (try with_reducible rfl); done)
          (try simp only [Act.put, List.setIfInBounds_toArray, List.set_cons_zero, List.set_cons_succ])
          refine take_at (i := 4) (d := some 55) (v := ?_) rfl rfl (by kernel_rfl) (by kernel_rfl) (by kernel_rfl) ?_ (Or.inl ⟨by rfl, ?_⟩) (by assumption) ?_
          rotate_left
          exact fun _ _ _ h => h
          focus (intro w hSw; (try dsimp only at hSw); go_simp; (try with_reducible rfl); done)
          (try simp only [Act.put, List.setIfInBounds_toArray, List.set_cons_zero, List.set_cons_succ])
          refine take_at (i := 5) (d := some 56) (v := ?_) rfl rfl (by kernel_rfl) (by kernel_rfl) (by kernel_rfl) ?_ (Or.inl ⟨by rfl, ?_⟩) (by assumption) ?_
          rotate_left
          exact fun _ _ _ h => h
          focus (intro w hSw; (try dsimp only at hSw); go_simp; (try with_reducible rfl); done)
          (try simp only [Act.put, List.setIfInBounds_toArray, List.set_cons_zero, List.set_cons_succ])
          refine take_at (i := 6) (d := some 57) (v := ?_) rfl rfl (by kernel_rfl) (by kernel_rfl) (by kernel_rfl) ?_ (Or.inl ⟨by rfl, ?_⟩) (by assumption) ?_
          rotate_left
          exact fun _ _ _ h => h
          focus (intro w hSw; (try dsimp only at hSw); go_simp; (try with_reducible rfl); done)
          (try simp only [Act.put, List.setIfInBounds_toArray, List.set_cons_zero, List.set_cons_succ])
          refine take_at (i := 7) (d := some 58) (v := ?_) rfl rfl (by kernel_rfl) (by kernel_rfl) (by kernel_rfl) ?_ (Or.inl ⟨by rfl, ?_⟩) (by assumption) ?_
          rotate_left
          exact fun _ _ _ h => h
          focus (intro w hSw; (try dsimp only at hSw); go_simp; (try with_reducible rfl); done)
          (try simp only [Act.put, List.setIfInBounds_toArray, List.set_cons_zero, List.set_cons_succ])
          refine take_at (i := 8) (d := some 59) (v := ?_) rfl rfl (by kernel_rfl) (by kernel_rfl) (by kernel_rfl) ?_ (Or.inl ⟨by rfl, ?_⟩) (by assumption) ?_
          rotate_left
          exact fun _ _ _ h => h
          focus (intro w hSw; (try dsimp only at hSw); go_simp; (try with_reducible rfl); done)
          (try simp only [Act.put, List.setIfInBounds_toArray, List.set_cons_zero, List.set_cons_succ])
          refine take_at (i := 9) (d := some 60) (v := ?_) rfl rfl (by kernel_rfl) (by kernel_rfl) (by kernel_rfl) ?_ (Or.inl ⟨by rfl, ?_⟩) (by assumption) ?_
          rotate_left
          exact fun _ _ _ h => h
          focus (intro w hSw; (try dsimp only at hSw); go_simp; (try with_reducible rfl); done)
          (try simp only [Act.put, List.setIfInBounds_toArray, List.set_cons_zero, List.set_cons_succ])
          refine take_at (i := 10) (d := some 61) (v := ?_) rfl rfl (by kernel_rfl) (by kernel_rfl) (by kernel_rfl) ?_ (Or.inl ⟨by rfl, ?_⟩) (by assumption) ?_
          rotate_left
          exact fun _ _ _ h => h
          focus (intro w hSw; (try dsimp only at hSw); go_simp; (try with_reducible rfl); done)
          (try simp only [Act.put, List.setIfInBounds_toArray, List.set_cons_zero, List.set_cons_succ])
          refine wpAnyH_ready (rs := [11]) (by kernel_rfl) (by simp) ?_
          refine AllReadyH.cons (o := _) rfl (fun K hK => ?_) AllReadyH.nil
          go_simp
          refine (HCT.out _).mono ?_
          rintro e w5 ⟨rfl, c5⟩
          have d5 := (Below.refl wr.heap.size wr).drew.trans c5
          refine hK.out _ _ ?_ (fun hHeld => ?_)
          focus (exact ⟨HK.out _ (hb.trans (d5.mono hb.size)), (d5.cell (p := ⟨bk, off + j, none⟩) hbk).trans g0, (d5.cell (p := ⟨bk, off + (j + 1), none⟩) hbk).trans g1⟩)
          clear hK
          (try simp only [Act.put, List.setIfInBounds_toArray, List.set_cons_zero, List.set_cons_succ])
          refine take_at (i := 12) (d := some 7) (v := ?_) rfl rfl (by kernel_rfl) (by kernel_rfl) (by kernel_rfl) ?_ (Or.inl ⟨by rfl, ?_⟩) (by assumption) ?_
          rotate_left
          exact fun _ _ _ h => h
          focus (intro w hSw; (try dsimp only at hSw); go_simp; (try with_reducible rfl); done)
          (try simp only [Act.put, List.setIfInBounds_toArray, List.set_cons_zero, List.set_cons_succ])
          refine wpAnyH_done (by kernel_rfl) ?_ _
          cases X with
          | true =>
            have HX1 := hid (show true = true ↔ (N = 0 ∨ ∃ i, i < j + 1 ∧ ctN (tC cs i) (tC cs (i + 1)) = N) by
              refine ⟨fun _ => ?_, fun _ => rfl⟩
              rw [HST.out]
              rcases HX.out.1 rfl with h | h
              · exact .inl h
              · exact .inr (.inl h))
            go_wp2
            go_roundw
            case rel => exact ⟨j + 1, true, by omega, by go_num, rfl, HX1.out, hb.trans (d5.mono hb.size)⟩
            case measure => simp [intOf]; omega
          | false =>
            have h0 : ¬ (N = 0 ∨ ∃ i, i < j ∧ ctN (tC cs i) (tC cs (i + 1)) = N) := fun h => by have := HX.out.2 h; cases this
            have HX1 := hid (show ((M : Int) == (N : Int)) = true ↔ (N = 0 ∨ ∃ i, i < j + 1 ∧ ctN (tC cs i) (tC cs (i + 1)) = N) by
              rw [HST.out, t5, decide_eq_true_eq]
              constructor
              · exact fun h2 => .inr (.inr h2)
              · rintro (h2 | h2 | h2)
                · exact absurd (.inl h2) h0
                · exact absurd (.inr h2) h0
                · exact h2)
            clear h0
            go_wp2
            go_roundw
            case rel => exact ⟨j + 1, _, by omega, by go_num, rfl, by first | exact HX1.out | (have h := HX1.out; rw [t5] at h; exact h) | (have h := HX1.out; simpa using h), hb.trans (d5.mono hb.size)⟩
            case measure => simp [intOf]; omega
        · obtain rfl : j = cs.length - 1 := by omega
          have hng : ¬ ((cs.length - 1 : Nat) : Int) + 1 < cs.length := by omega
          have HXT := hid (show X = true by
            exact HX.out.2 HSM.out)
          obtain rfl := HXT.out
          obtain ⟨bk, off, rfl, hbk, g0, -⟩ := hcI 0 (by omega)
          rw [Nat.add_zero] at g0
          have n2 : (0 : Int) < cs.length := by omega
          have n3 : 0 < cs.length := by omega
          have n4 : (N : Int) ≤ ((tC cs 0).size : Int) := by omega
          clear hcI
          go_wp2
          go_ret
          exact ⟨by first | rfl | simp [n4], HB5.out.trans (hb.mono s5)⟩
end Go.Proofs.Ytkaanlldjkflaaa
