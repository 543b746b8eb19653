/- What is proved here: the drawing of an engine and of a text for the law on an engine's text. -/
import Derived.Test.YtkaanlldjkflaaaDoorEt3
set_option linter.unusedVariables false
set_option linter.unusedSimpArgs false
set_option maxRecDepth 100000
namespace Go.Proofs.YtkaanlldjkflaaaDoor
open Go.RowKit

/-- What is left by a call that draws an engine. -/
def EngNew (w : World) (e : Ending) (w' : World) : Prop :=
  ∃ (a : Option Addr) (cap : Nat) (cs : List ByteArray), e = .returned (.agg #[.slice a cs.length cap]) ∧ IsT w' w'.heap.size (.slice a cs.length cap) cs ∧ cs.length ≤ 8 ∧ Below w.heap.size w w'
theorem c_DrawFormatEngine (w : World) (v : Value) (nb : Nat) (hv : IsBy w w.heap.size v nb) :
    Calls Tryd.prog 4 #[v] w (EngNew w) := by
  have b1 := RetRow.e1 w (.cells #[.slice none 0 0] 25)
  have g0 := eng_alloc w (.slice none 0 0) 25
  have hv1 := IsBy.upE (hv.below b1 (Nat.le_refl _)) b1.size
  obtain ⟨wA, hwA⟩ : ∃ x, w.alloc (.cells #[.slice none 0 0] 25) = x := ⟨_, rfl⟩
  rw [hwA] at g0 b1 hv1
  obtain ⟨gP, hgP⟩ : ∃ x, w.heap.size = x := ⟨_, rfl⟩
  have hwP : w.heap.size ≤ gP := by omega
  rw [hgP] at g0
  have hPl := (Array.getElem?_eq_some_iff.1 g0).1
  have HP := hid g0
  clear g0 hv
  go_enter Tryd.func4, Tryd.ntmps4
  go_wp2_with fail
  (try clear hwA)
  (try clear hgP)
  refine (c_l9Open _ _ _ hv1).mono ?_
  rintro e w1 ⟨rfl, r, c, sz1⟩
  have s1 := c.size
  obtain ⟨g, hg⟩ : ∃ x, wA.heap.size = x := ⟨_, rfl⟩
  have hgA : wA.heap.size ≤ g := by omega
  have hAg : g ≤ wA.heap.size := by omega
  rw [hg] at r
  have hgl := r.lt
  replace HP := hid ((c.block gP (by omega)).trans HP.out)
  replace b1 := b1.trans (c.mono b1.size)
  clear c hv1 sz1
  rw [hg]
  clear hg
  go_wp2_with fail
  refine (c_l3Open _ g g 0 (by omega) r).mono ?_
  clear r
  rintro e w2 ⟨ga, ca, cs, rfl, ra, hga, ha8, r, c⟩
  have s2 := c.size
  replace HP := hid ((c.block gP (by omega) (by omega)).trans HP.out)
  replace b1 := b1.trans (c.below (by omega) (by omega))
  clear c
  have HRA := hid (ra.isT)
  have hal := ra.lt.2.2
  have c0 := row_cell HP.out 0
  have f0 := row_free HP.out 0
  have HF := hid (row_set HP.out 0 (.slice (some ⟨ga, 0, none⟩) cs.length ca))
  have HB := hid b1
  clear ra r b1
  go_wp2
  (try simp only [Exit.inBlock, Exit.then])
  refine bodyPost_eng rfl rfl (by rfl) HF.out ?_
  exact ⟨some ⟨ga, 0, none⟩, ca, cs, rfl, (HRA.out.setNS (engNS HP.out)).up (by simp; omega), ha8, HB.out.setCell (p := ⟨gP, 0, none⟩) hwP _⟩
set_option maxHeartbeats 1600000 in
theorem c_DrawParseEngine (w : World) (v : Value) (nb : Nat) (hv : IsBy w w.heap.size v nb) :
    Calls Tryd.prog 10 #[v] w fun e w' => ∃ s : ByteArray, e = .returned (.string s) ∧ s.size ≤ 1000 ∧ Below w.heap.size w w' := by
  go_enter Tryd.func10, Tryd.ntmps10
  go_wp2_with fail
  refine (c_l9Open _ _ _ hv).mono ?_
  rintro e w1 ⟨rfl, r, b1, sz1⟩
  obtain ⟨g, hg⟩ : ∃ x, w.heap.size = x := ⟨_, rfl⟩
  have hgw : w.heap.size ≤ g := by omega
  have HGW := hid hg
  rw [hg] at r ⊢
  clear hg hv sz1
  have hgl := r.lt
  have HB1 := hid b1
  clear b1
  go_wp2_with fail
  refine (c_l3SomeG _ g g 0 (by omega) r).mono ?_
  clear r
  rintro e w2 ⟨ga, ca, cs, rfl, ra, hga, hcl, hE, r, c⟩
  have s2 := c.size
  have HB2 := hid (HB1.out.trans (c.below (by omega) (by have := HB1.out.size; omega)))
  have HRA := hid (ra.isT)
  have HE := hid hE
  have hl2 := ra.lt.2.2
  clear c ra hE
  go_wp2_with fail
  refine (c_sFormatEngine _ cs _ (by omega) (HRA.out.up (by omega))).mono ?_
  rw [FE_yes HE.out]
  rintro e w3 ⟨rfl, b3⟩
  have hs := JB_size HE.out
  have r3 := r.below b3 r.lt
  have HB3 := hid (HB2.out.trans (b3.mono HB2.out.size))
  clear r b3 hl2 hcl hga
  generalize JB cs = t at *
  go_wp2_with fail
  refine (c_pick _ _ _ _ _ (by omega) (by omega) r3).mono ?_
  rintro e w4 ⟨x, rfl, q, r4, c⟩
  have HB4 := hid (HB3.out.trans (c.below (by omega) (by have := HB3.out.size; omega)))
  clear c r3
  obtain ⟨x0, x1⟩ := q.1 (by omega)
  clear q
  by_cases hx : x = 0
  · have t1 : (x == 0) = true := by simpa using hx
    clear hx
    go_wp2
    go_ret
    exact ⟨t, rfl, by omega, HB4.out⟩
  · have t1 : (x == 0) = false := by simpa using hx
    clear hx
    go_wp2_with fail
    refine (c_pick _ _ _ _ _ (by omega) (by omega) r4).mono ?_
    rintro e w5 ⟨k, rfl, q, r5, c⟩
    have HB5 := hid (HB4.out.trans (c.below (by omega) (by have := HB4.out.size; omega)))
    clear c r4
    obtain ⟨k0, k1⟩ := q.1 (by omega)
    clear q
    obtain ⟨k, rfl⟩ : ∃ n : Nat, k = n := ⟨k.toNat, by omega⟩
    have hk : k < t.size := by omega
    have hk2 : k ≤ t.size := by omega
    have HSZ := hid (show ∀ i, i < [(⟨#[]⟩ : ByteArray), ⟨#[48]⟩, ⟨#[32]⟩, ⟨#[45]⟩, ⟨#[120]⟩].length → (tC [(⟨#[]⟩ : ByteArray), ⟨#[48]⟩, ⟨#[32]⟩, ⟨#[45]⟩, ⟨#[120]⟩] i).size ≤ 4 from fun i hi => by
      have h5 : i = 0 ∨ i = 1 ∨ i = 2 ∨ i = 3 ∨ i = 4 := by simp at hi; omega
      rcases h5 with rfl | rfl | rfl | rfl | rfl <;> decide)
    have h5g : g < w5.heap.size := r5.lt
    go_wp2_with fail
    refine wp_region_held_drew (S := fun _ => True) (by kernel_rfl) ?_ (fun hHeld => ?_)
    focus (exact trivial)
    refine take_at (i := 0) (d := some 19) (v := ?_) rfl rfl (by kernel_rfl) (by kernel_rfl) (by kernel_rfl) ?_ (Or.inl ⟨by rfl, ?_⟩) (by assumption) ?_
    rotate_left
    exact fun _ _ _ h => h
    focus (intro w hSw; (try dsimp only at hSw); go_simp; (try with_reducible rfl); done)
    (try simp only [Act.put, List.setIfInBounds_toArray, List.set_cons_zero, List.set_cons_succ])
    refine take_at (i := 1) (d := some 20) (v := ?_) rfl rfl (by kernel_rfl) (by kernel_rfl) (by kernel_rfl) ?_ (Or.inl ⟨by rfl, ?_⟩) (by assumption) ?_
    rotate_left
    exact fun _ _ _ h => h
    focus (intro w hSw; (try dsimp only at hSw); go_simp; (try with_reducible rfl); done)
    (try simp only [Act.put, List.setIfInBounds_toArray, List.set_cons_zero, List.set_cons_succ])
    refine take_at (i := 2) (d := some 21) (v := ?_) rfl rfl (by kernel_rfl) (by kernel_rfl) (by kernel_rfl) ?_ (Or.inl ⟨by rfl, ?_⟩) (by assumption) ?_
    rotate_left
    exact fun _ _ _ h => h
    focus (intro w hSw; (try dsimp only at hSw); go_simp; (try with_reducible rfl); done)
    (try simp only [Act.put, List.setIfInBounds_toArray, List.set_cons_zero, List.set_cons_succ])
    refine take_at (i := 3) (d := some 22) (v := ?_) rfl rfl (by kernel_rfl) (by kernel_rfl) (by kernel_rfl) ?_ (Or.inl ⟨by rfl, ?_⟩) (by assumption) ?_
    rotate_left
    exact fun _ _ _ h => h
    focus (intro w hSw; (try dsimp only at hSw); go_simp; (try with_reducible rfl); done)
    (try simp only [Act.put, List.setIfInBounds_toArray, List.set_cons_zero, List.set_cons_succ])
    refine take_at (i := 7) (d := some 26) (v := ?_) rfl rfl (by kernel_rfl) (by kernel_rfl) (by kernel_rfl) ?_ (Or.inl ⟨by rfl, ?_⟩) (by assumption) ?_
    rotate_left
    exact fun _ _ _ h => h
    focus (intro w hSw; (try dsimp only at hSw); go_simp; (try with_reducible rfl); done)
    (try simp only [Act.put, List.setIfInBounds_toArray, List.set_cons_zero, List.set_cons_succ])
    refine take_at (i := 8) (d := some 27) (v := ?_) rfl rfl (by kernel_rfl) (by kernel_rfl) (by kernel_rfl) ?_ (Or.inl ⟨by rfl, ?_⟩) (by assumption) ?_
    rotate_left
    exact fun _ _ _ h => h
    focus (intro w hSw; (try dsimp only at hSw); go_simp; (try with_reducible rfl); done)
    (try simp only [Act.put, List.setIfInBounds_toArray, List.set_cons_zero, List.set_cons_succ])
    refine take_at (i := 9) (d := some 28) (v := ?_) rfl rfl (by kernel_rfl) (by kernel_rfl) (by kernel_rfl) ?_ (Or.inl ⟨by rfl, ?_⟩) (by assumption) ?_
    rotate_left
    exact fun _ _ _ h => h
    focus (intro w hSw; (try dsimp only at hSw); go_simp; (try with_reducible rfl); done)
    (try simp only [Act.put, List.setIfInBounds_toArray, List.set_cons_zero, List.set_cons_succ])
    refine wpAnyH_ready (rs := [4]) (by kernel_rfl) (by simp) ?_
    refine AllReadyH.cons (o := _) rfl (fun K hK => ?_) AllReadyH.nil
    go_simp
    refine hK.out _ _ ?_ (fun hHeld => ?_)
    focus (exact trivial)
    clear hK
    (try simp only [Act.put, List.setIfInBounds_toArray, List.set_cons_zero, List.set_cons_succ])
    refine wpAnyH_ready (rs := [5]) (by kernel_rfl) (by simp) ?_
    refine AllReadyH.cons (o := _) rfl (fun K hK => ?_) AllReadyH.nil
    go_simp
    refine (c_ofLit w5.drew g g _ _ [⟨#[]⟩, ⟨#[48]⟩, ⟨#[32]⟩, ⟨#[45]⟩, ⟨#[120]⟩] rfl (by omega) (by simp) (by simp) _ rfl HSZ.out r5).mono ?_
    rintro e w6 ⟨s, rfl, hs6, r6, c6⟩
    have HB6 := hid (HB5.out.drew.trans (c6.below (by omega) (by have := HB5.out.size; show w.heap.size ≤ w5.heap.size; omega)))
    refine hK.out _ _ ?_ (fun hHeld => ?_)
    focus (exact trivial)
    clear hK
    (try simp only [Act.put, List.setIfInBounds_toArray, List.set_cons_zero, List.set_cons_succ])
    have hex : (t.extract 0 k).size = k := by rw [ByteArray.size_extract]; omega
    have z0 : ¬ 9223372036854775807 < k + s.size := by omega
    have z1 : ¬ 9223372036854775807 < (t.extract 0 k).size + s.size := by omega
    refine take_at (i := 6) (d := some 25) (v := ?_) rfl rfl (by kernel_rfl) (by kernel_rfl) (by kernel_rfl) ?_ (Or.inl ⟨by rfl, ?_⟩) (by assumption) ?_
    rotate_left
    exact fun _ _ _ h => h
    focus (intro w hSw; (try dsimp only at hSw); go_simp; (try with_reducible rfl); done)
    (try simp only [Act.put, List.setIfInBounds_toArray, List.set_cons_zero, List.set_cons_succ])
    refine wpAnyH_ready (rs := [10]) (by kernel_rfl) (by simp) ?_
    refine AllReadyH.cons (o := _) rfl (fun K hK => ?_) AllReadyH.nil
    go_simp
    refine (c_pick w6 g g _ 2 (by omega) (by omega) r6).mono ?_
    rintro e w7 ⟨y, rfl, q7, r7, c7⟩
    have HB7 := hid (HB6.out.trans (c7.below (by omega) (by have := HB6.out.size; omega)))
    refine hK.out _ _ ?_ (fun hHeld => ?_)
    focus (exact trivial)
    clear hK
    (try simp only [Act.put, List.setIfInBounds_toArray, List.set_cons_zero, List.set_cons_succ])
    obtain ⟨y0, y1⟩ := q7.1 (by omega)
    obtain ⟨y, rfl⟩ : ∃ n : Nat, y = n := ⟨y.toNat, by omega⟩
    clear q7
    have k5 : IntKind.i64.wrap ((k : Int) + (y : Int)) = (k : Int) + (y : Int) := IntWalk.i64_in _ (by omega)
    have k6 : 0 ≤ (k : Int) + (y : Int) := by omega
    have k7 : (k : Int) + (y : Int) ≤ (t.size : Int) := by omega
    have k8 : ((k : Int) + (y : Int)).toNat = k + y := by omega
    have hk3 : k + y ≤ t.size := by omega
    have hex2 : (t.extract (k + y) t.size).size = t.size - (k + y) := by rw [ByteArray.size_extract]; omega
    have z2 : ¬ 9223372036854775807 < k + s.size + (t.size - (k + y)) := by omega
    have z3 : ¬ 9223372036854775807 < (t.extract 0 k).size + s.size + (t.extract (k + y) t.size).size := by omega
    refine take_at (i := 11) (d := some 30) (v := ?_) rfl rfl (by kernel_rfl) (by kernel_rfl) (by kernel_rfl) ?_ (Or.inl ⟨by rfl, ?_⟩) (by assumption) ?_
    rotate_left
    exact fun _ _ _ h => h
    focus (intro w hSw; (try dsimp only at hSw); go_simp; (try with_reducible rfl); done)
    (try simp only [Act.put, List.setIfInBounds_toArray, List.set_cons_zero, List.set_cons_succ])
    refine take_at (i := 12) (d := some 31) (v := ?_) rfl rfl (by kernel_rfl) (by kernel_rfl) (by kernel_rfl) ?_ (Or.inl ⟨by rfl, ?_⟩) (by assumption) ?_
    rotate_left
    exact fun _ _ _ h => h
    focus (intro w hSw; (try dsimp only at hSw); go_simp; (try with_reducible rfl); done)
    (try simp only [Act.put, List.setIfInBounds_toArray, List.set_cons_zero, List.set_cons_succ])
    refine take_at (i := 13) (d := some 32) (v := ?_) rfl rfl (by kernel_rfl) (by kernel_rfl) (by kernel_rfl) ?_ (Or.inl ⟨by rfl, ?_⟩) (by assumption) ?_
    rotate_left
    exact fun _ _ _ h => h
    focus (intro w hSw; (try dsimp only at hSw); go_simp; (try with_reducible rfl); done)
    (try simp only [Act.put, List.setIfInBounds_toArray, List.set_cons_zero, List.set_cons_succ])
    refine take_at (i := 14) (d := some 2) (v := ?_) rfl rfl (by kernel_rfl) (by kernel_rfl) (by kernel_rfl) ?_ (Or.inl ⟨by rfl, ?_⟩) (by assumption) ?_
    rotate_left
    exact fun _ _ _ h => h
    focus (intro w hSw; (try dsimp only at hSw); go_simp; (try with_reducible rfl); done)
    (try simp only [Act.put, List.setIfInBounds_toArray, List.set_cons_zero, List.set_cons_succ])
    refine wpAnyH_done (by kernel_rfl) ?_ _
    go_wp2
    go_ret
    exact ⟨_, rfl, by rw [ByteArray.size_append, ByteArray.size_append]; omega, HB7.out⟩
end Go.Proofs.YtkaanlldjkflaaaDoor
