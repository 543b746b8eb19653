/- What is proved here: the drawing of errata and of a text for the law on the errata's text. -/
import Derived.Test.YtlinkeemccnfmaaDoorDre5
import Derived.Test.YtlinkeemccnfmaaDoorStT
import Derived.Test.YtlinkeemccnfmaaDoorTk
set_option linter.unusedVariables false
set_option linter.unusedSimpArgs false
set_option maxRecDepth 100000
namespace Go.Proofs.YtlinkeemccnfmaaDoor
open Go.RowKit

theorem c_ofLit (w : World) (B g L : Nat) (cs : Array Value) (ss : List ByteArray) (hcs : cs = (ss.map Value.string).toArray) (hL : L ≤ 100000) (hx : 0 < ss.length) (hxl : ss.length ≤ 1000) (k : Nat) (hk : k = ss.length) (hs : ∀ i, i < ss.length → (tC ss i).size ≤ 4) (r : Rd w B g L) :
    Calls Tryd.prog 33 #[.pointer (some ⟨g, 0, none⟩), .slice (some ⟨w.heap.size, 0, none⟩) k k] (w.alloc (.cells cs 9)) fun e w' => ∃ s : ByteArray, e = .returned (.string s) ∧ s.size ≤ 4 ∧ Rd w' B g (L + 1) ∧ Chg g (g + 1) w w' := by
  subst hk hcs
  have hlt := r.lt
  have hge := r.ge
  have hr1 := r.chg (alloc_chg w (.cells (ss.map Value.string).toArray 9) B B) (.inl (Nat.le_refl _)) (by omega)
  have HC := hid (fun j (hj : j < ss.length) => (show (w.alloc (.cells (ss.map Value.string).toArray 9)).cell? ⟨w.heap.size, j, none⟩ = some (.string (tC ss j)) by rw [row_cell (heap_alloc_new w _), List.getElem?_toArray, map_str_at _ _ hj]))
  have HS := hid hs
  have c0 := alloc_chg w (.cells (ss.map Value.string).toArray 9) g (g + 1)
  have hlA : w.heap.size < (w.alloc (.cells (ss.map Value.string).toArray 9)).heap.size := by simp
  obtain ⟨wA, hwA⟩ : ∃ x, w.alloc (.cells (ss.map Value.string).toArray 9) = x := ⟨_, rfl⟩
  rw [hwA] at hr1 HC c0 hlA ⊢
  clear hwA hs r
  go_enter Tryd.func33, Tryd.ntmps33
  go_wp2_with fail
  refine (c_pick _ B g L _ (by omega) (by omega) hr1).mono ?_
  rintro e w1 ⟨x, rfl, hx1, r1, c1⟩
  obtain ⟨x0, x1⟩ := hx1.1 (by omega)
  obtain ⟨j, rfl⟩ : ∃ j : Nat, x = j := ⟨x.toNat, by omega⟩
  have hj : j < ss.length := by omega
  have hce : w1.cell? ⟨w.heap.size, j, none⟩ = some (.string (tC ss j)) := (World.cell?_of_block (w := wA) (a := ⟨w.heap.size, j, none⟩) (c1.block w.heap.size hlA (by omega))).trans (HC.out j hj)
  go_wp2
  go_ret
  exact ⟨tC ss j, rfl, HS.out j hj, r1, c0.trans c1⟩
theorem c_DrawFormatErrata (w : World) (v : Value) (nb : Nat) (hv : IsBy w w.heap.size v nb) :
    Calls Tryd.prog 15 #[v] w fun e w' => ∃ u zs, e = .returned u ∧ zs.length ≤ 6000 ∧ IsE w' w'.heap.size u zs ∧ Below w.heap.size w w' := by
  go_enter Tryd.func15, Tryd.ntmps15
  go_wp2_with fail
  refine (c_DrawApplyErrata _ _ _ hv).mono ?_
  rintro e w1 ⟨v1, u, xs, zs, rfl, hz, hi, he, b⟩
  go_wp2
  go_ret
  exact ⟨u, zs, rfl, hz, he, b⟩
set_option maxHeartbeats 1600000 in
theorem c_DrawParseErrata (w : World) (v : Value) (nb : Nat) (hv : IsBy w w.heap.size v nb) :
    Calls Tryd.prog 17 #[v] w fun e w' => ∃ s : ByteArray, e = .returned (.string s) ∧ s.size ≤ 5000 ∧ Below w.heap.size w w' := by
  go_enter Tryd.func17, Tryd.ntmps17
  go_wp2_with fail
  refine (c_l9Open _ _ _ hv).mono ?_
  rintro e w1 ⟨rfl, r, b1, sz1⟩
  obtain ⟨g, hg⟩ : ∃ x, w.heap.size = x := ⟨_, rfl⟩
  have hgw : w.heap.size ≤ g := by omega
  have HGW := hid hg
  rw [hg] at r ⊢
  clear hg hv sz1
  have hgl := r.lt
  have HB1 := hid b1
  clear b1
  go_wp2_with fail
  refine (c_l4List _ g g 0 (by omega) r).mono ?_
  clear r
  rintro e w2 ⟨b, cap, n, xs, u, zs, rfl, ⟨x0, x1, hl, hz, hev⟩, -, ⟨H, hH1, hH2, ho⟩, r, c⟩
  have s2 := c.size
  have HB2 := hid (HB1.out.trans (c.below (by omega) (by have := HB1.out.size; omega)))
  have HIE := hid (ho.isI hl hz)
  have hfs := FT_size hl hev hz x1
  obtain ⟨t, ht⟩ : ∃ t, FT zs = t := ⟨_, rfl⟩
  have HFM := hid (fun W (hI : IsE W W.heap.size u zs) => c_FormatErrata u zs W.heap.size W (Nat.le_refl _) (by omega) hI)
  rw [ht] at hfs HFM
  have HL := hid hl
  have HZ := hid hz
  clear c ho hev hl hz ht hH1 hH2
  go_wp2_with fail
  refine (HFM.out _ HIE.out).mono ?_
  rintro e w3 ⟨rfl, b3⟩
  have hs := hfs
  have r3 := r.below b3 r.lt
  have HB3 := hid (HB2.out.trans (b3.mono HB2.out.size))
  clear r b3 hfs
  go_wp2_with fail
  refine (c_pick _ _ _ _ _ (by omega) (by omega) r3).mono ?_
  rintro e w4 ⟨x, rfl, q, r4, c⟩
  have HB4 := hid (HB3.out.trans (c.below (by omega) (by have := HB3.out.size; omega)))
  clear c r3
  obtain ⟨x0, x1⟩ := q.1 (by omega)
  clear q
  by_cases hx : x = 0
  · have t1 : (x == 0) = true := by simpa using hx
    clear hx
    go_wp2
    go_ret
    exact ⟨t, rfl, by omega, HB4.out⟩
  · have t1 : (x == 0) = false := by simpa using hx
    clear hx
    go_wp2_with fail
    refine (c_pick _ _ _ _ _ (by omega) (by omega) r4).mono ?_
    rintro e w5 ⟨k, rfl, q, r5, c⟩
    have HB5 := hid (HB4.out.trans (c.below (by omega) (by have := HB4.out.size; omega)))
    clear c r4
    obtain ⟨k0, k1⟩ := q.1 (by omega)
    clear q
    obtain ⟨k, rfl⟩ : ∃ n : Nat, k = n := ⟨k.toNat, by omega⟩
    have hk : k < t.size := by omega
    have hk2 : k ≤ t.size := by omega
    have HSZ := hid (show ∀ i, i < [(⟨#[]⟩ : ByteArray), ⟨#[48]⟩, ⟨#[59]⟩, ⟨#[58]⟩, ⟨#[62]⟩, ⟨#[45]⟩, ⟨#[120]⟩].length → (tC [(⟨#[]⟩ : ByteArray), ⟨#[48]⟩, ⟨#[59]⟩, ⟨#[58]⟩, ⟨#[62]⟩, ⟨#[45]⟩, ⟨#[120]⟩] i).size ≤ 4 from fun i hi => by
      have h5 : i = 0 ∨ i = 1 ∨ i = 2 ∨ i = 3 ∨ i = 4 ∨ i = 5 ∨ i = 6 := by simp at hi; omega
      rcases h5 with rfl | rfl | rfl | rfl | rfl | rfl | rfl <;> decide)
    have h5g : g < w5.heap.size := r5.lt
    go_wp2_with fail
    refine wp_region_held_drew (S := fun _ => True) (by kernel_rfl) ?_ (fun hHeld => ?_)
    focus (exact trivial)
    refine take_at (i := 0) (d := some 25) (v := ?_) rfl rfl (by kernel_rfl) (by kernel_rfl) (by kernel_rfl) ?_ (Or.inl ⟨by rfl, ?_⟩) (by assumption) ?_
    rotate_left
    exact fun _ _ _ h => h
    focus (intro w hSw; (try dsimp only at hSw); go_simp; (try with_reducible rfl); done)
    (try simp only [Act.put, List.setIfInBounds_toArray, List.set_cons_zero, List.set_cons_succ])
    refine take_at (i := 1) (d := some 26) (v := ?_) rfl rfl (by kernel_rfl) (by kernel_rfl) (by kernel_rfl) ?_ (Or.inl ⟨by rfl, ?_⟩) (by assumption) ?_
    rotate_left
    exact fun _ _ _ h => h
    focus (intro w hSw; (try dsimp only at hSw); go_simp; (try with_reducible rfl); done)
    (try simp only [Act.put, List.setIfInBounds_toArray, List.set_cons_zero, List.set_cons_succ])
    refine take_at (i := 2) (d := some 27) (v := ?_) rfl rfl (by kernel_rfl) (by kernel_rfl) (by kernel_rfl) ?_ (Or.inl ⟨by rfl, ?_⟩) (by assumption) ?_
    rotate_left
    exact fun _ _ _ h => h
    focus (intro w hSw; (try dsimp only at hSw); go_simp; (try with_reducible rfl); done)
    (try simp only [Act.put, List.setIfInBounds_toArray, List.set_cons_zero, List.set_cons_succ])
    refine take_at (i := 3) (d := some 28) (v := ?_) rfl rfl (by kernel_rfl) (by kernel_rfl) (by kernel_rfl) ?_ (Or.inl ⟨by rfl, ?_⟩) (by assumption) ?_
    rotate_left
    exact fun _ _ _ h => h
    focus (intro w hSw; (try dsimp only at hSw); go_simp; (try with_reducible rfl); done)
    (try simp only [Act.put, List.setIfInBounds_toArray, List.set_cons_zero, List.set_cons_succ])
    refine take_at (i := 7) (d := some 32) (v := ?_) rfl rfl (by kernel_rfl) (by kernel_rfl) (by kernel_rfl) ?_ (Or.inl ⟨by rfl, ?_⟩) (by assumption) ?_
    rotate_left
    exact fun _ _ _ h => h
    focus (intro w hSw; (try dsimp only at hSw); go_simp; (try with_reducible rfl); done)
    (try simp only [Act.put, List.setIfInBounds_toArray, List.set_cons_zero, List.set_cons_succ])
    refine take_at (i := 8) (d := some 33) (v := ?_) rfl rfl (by kernel_rfl) (by kernel_rfl) (by kernel_rfl) ?_ (Or.inl ⟨by rfl, ?_⟩) (by assumption) ?_
    rotate_left
    exact fun _ _ _ h => h
    focus (intro w hSw; (try dsimp only at hSw); go_simp; (try with_reducible rfl); done)
    (try simp only [Act.put, List.setIfInBounds_toArray, List.set_cons_zero, List.set_cons_succ])
    refine take_at (i := 9) (d := some 34) (v := ?_) rfl rfl (by kernel_rfl) (by kernel_rfl) (by kernel_rfl) ?_ (Or.inl ⟨by rfl, ?_⟩) (by assumption) ?_
    rotate_left
    exact fun _ _ _ h => h
    focus (intro w hSw; (try dsimp only at hSw); go_simp; (try with_reducible rfl); done)
    (try simp only [Act.put, List.setIfInBounds_toArray, List.set_cons_zero, List.set_cons_succ])
    refine wpAnyH_ready (rs := [4]) (by kernel_rfl) (by simp) ?_
    refine AllReadyH.cons (o := _) rfl (fun K hK => ?_) AllReadyH.nil
    go_simp
    refine hK.out _ _ ?_ (fun hHeld => ?_)
    focus (exact trivial)
    clear hK
    (try simp only [Act.put, List.setIfInBounds_toArray, List.set_cons_zero, List.set_cons_succ])
    refine wpAnyH_ready (rs := [5]) (by kernel_rfl) (by simp) ?_
    refine AllReadyH.cons (o := _) rfl (fun K hK => ?_) AllReadyH.nil
    go_simp
    refine (c_ofLit w5.drew g g _ _ [⟨#[]⟩, ⟨#[48]⟩, ⟨#[59]⟩, ⟨#[58]⟩, ⟨#[62]⟩, ⟨#[45]⟩, ⟨#[120]⟩] rfl (by omega) (by simp) (by simp) _ rfl HSZ.out r5).mono ?_
    rintro e w6 ⟨s, rfl, hs6, r6, c6⟩
    have HB6 := hid (HB5.out.drew.trans (c6.below (by omega) (by have := HB5.out.size; show w.heap.size ≤ w5.heap.size; omega)))
    refine hK.out _ _ ?_ (fun hHeld => ?_)
    focus (exact trivial)
    clear hK
    (try simp only [Act.put, List.setIfInBounds_toArray, List.set_cons_zero, List.set_cons_succ])
    have hex : (t.extract 0 k).size = k := by rw [ByteArray.size_extract]; omega
    have z0 : ¬ 9223372036854775807 < k + s.size := by omega
    have z1 : ¬ 9223372036854775807 < (t.extract 0 k).size + s.size := by omega
    refine take_at (i := 6) (d := some 31) (v := ?_) rfl rfl (by kernel_rfl) (by kernel_rfl) (by kernel_rfl) ?_ (Or.inl ⟨by rfl, ?_⟩) (by assumption) ?_
    rotate_left
    exact fun _ _ _ h => h
    focus (intro w hSw; (try dsimp only at hSw); go_simp; (try with_reducible rfl); done)
    (try simp only [Act.put, List.setIfInBounds_toArray, List.set_cons_zero, List.set_cons_succ])
    refine wpAnyH_ready (rs := [10]) (by kernel_rfl) (by simp) ?_
    refine AllReadyH.cons (o := _) rfl (fun K hK => ?_) AllReadyH.nil
    go_simp
    refine (c_pick w6 g g _ 2 (by omega) (by omega) r6).mono ?_
    rintro e w7 ⟨y, rfl, q7, r7, c7⟩
    have HB7 := hid (HB6.out.trans (c7.below (by omega) (by have := HB6.out.size; omega)))
    refine hK.out _ _ ?_ (fun hHeld => ?_)
    focus (exact trivial)
    clear hK
    (try simp only [Act.put, List.setIfInBounds_toArray, List.set_cons_zero, List.set_cons_succ])
    obtain ⟨y0, y1⟩ := q7.1 (by omega)
    obtain ⟨y, rfl⟩ : ∃ n : Nat, y = n := ⟨y.toNat, by omega⟩
    clear q7
    have k5 : IntKind.i64.wrap ((k : Int) + (y : Int)) = (k : Int) + (y : Int) := IntWalk.i64_in _ (by omega)
    have k6 : 0 ≤ (k : Int) + (y : Int) := by omega
    have k7 : (k : Int) + (y : Int) ≤ (t.size : Int) := by omega
    have k8 : ((k : Int) + (y : Int)).toNat = k + y := by omega
    have hk3 : k + y ≤ t.size := by omega
    have hex2 : (t.extract (k + y) t.size).size = t.size - (k + y) := by rw [ByteArray.size_extract]; omega
    have z2 : ¬ 9223372036854775807 < k + s.size + (t.size - (k + y)) := by omega
    have z3 : ¬ 9223372036854775807 < (t.extract 0 k).size + s.size + (t.extract (k + y) t.size).size := by omega
    refine take_at (i := 11) (d := some 36) (v := ?_) rfl rfl (by kernel_rfl) (by kernel_rfl) (by kernel_rfl) ?_ (Or.inl ⟨by rfl, ?_⟩) (by assumption) ?_
    rotate_left
    exact fun _ _ _ h => h
    focus (intro w hSw; (try dsimp only at hSw); go_simp; (try with_reducible rfl); done)
    (try simp only [Act.put, List.setIfInBounds_toArray, List.set_cons_zero, List.set_cons_succ])
    refine take_at (i := 12) (d := some 37) (v := ?_) rfl rfl (by kernel_rfl) (by kernel_rfl) (by kernel_rfl) ?_ (Or.inl ⟨by rfl, ?_⟩) (by assumption) ?_
    rotate_left
    exact fun _ _ _ h => h
    focus (intro w hSw; (try dsimp only at hSw); go_simp; (try with_reducible rfl); done)
    (try simp only [Act.put, List.setIfInBounds_toArray, List.set_cons_zero, List.set_cons_succ])
    refine take_at (i := 13) (d := some 38) (v := ?_) rfl rfl (by kernel_rfl) (by kernel_rfl) (by kernel_rfl) ?_ (Or.inl ⟨by rfl, ?_⟩) (by assumption) ?_
    rotate_left
    exact fun _ _ _ h => h
    focus (intro w hSw; (try dsimp only at hSw); go_simp; (try with_reducible rfl); done)
    (try simp only [Act.put, List.setIfInBounds_toArray, List.set_cons_zero, List.set_cons_succ])
    refine take_at (i := 14) (d := some 2) (v := ?_) rfl rfl (by kernel_rfl) (by kernel_rfl) (by kernel_rfl) ?_ (Or.inl ⟨by rfl, ?_⟩) (by assumption) ?_
    rotate_left
    exact fun _ _ _ h => h
    focus (intro w hSw; (try dsimp only at hSw); go_simp; (try with_reducible rfl); done)
    (try simp only [Act.put, List.setIfInBounds_toArray, List.set_cons_zero, List.set_cons_succ])
    refine wpAnyH_done (by kernel_rfl) ?_ _
    go_wp2
    go_ret
    exact ⟨_, rfl, by rw [ByteArray.size_append, ByteArray.size_append]; omega, HB7.out⟩
end Go.Proofs.YtlinkeemccnfmaaDoor
