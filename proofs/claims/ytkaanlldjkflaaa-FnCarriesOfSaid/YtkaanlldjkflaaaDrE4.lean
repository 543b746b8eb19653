/- What is proved here: the contract of the drawing of two engines. -/
import Derived.Test.YtkaanlldjkflaaaDrE3
set_option linter.unusedVariables false
set_option linter.unusedSimpArgs false
set_option maxRecDepth 100000
namespace Go.Proofs.Ytkaanlldjkflaaa
open Go.RowKit

theorem bodyPost_eng2 {fn : Func} {p q : Tmp} (h : fn.results = #[.cell p 27, .cell q 27]) {a : Act} {w' : World} {g k : Nat} {v u : Value} {Q : Ending → World → Prop}
    (hd : a.defers = []) (hp : a.tmps.getD p undef = .pointer (some ⟨g, 0, none⟩)) (hq' : a.tmps.getD q undef = .pointer (some ⟨k, 0, none⟩)) (hg : w'.heap[g]? = some (.cells #[v] 27 (0, 0))) (hk : w'.heap[k]? = some (.cells #[u] 27 (0, 0)))
    (hq : Q (.returned (.tuple #[.agg #[v], .agg #[u]])) w') : bodyPost Try.prog fn Q .ret a w' := by
  refine bodyPost_ret (v := .tuple #[.agg #[v], .agg #[u]]) ?_ hd hq
  have hp' : a.tmps[p]?.getD undef = .pointer (some ⟨g, 0, none⟩) := by rw [← Array.getD_eq_getD_getElem?]; exact hp
  have hq2 : a.tmps[q]?.getD undef = .pointer (some ⟨k, 0, none⟩) := by rw [← Array.getD_eq_getD_getElem?]; exact hq'
  simp [results, h, hp', hq2, asAddr, Result.andThen, run_loadVar_row (P := Try.prog) w' g 27 27 #[v] (0, 0) _ hg Try.underlying27 rfl Try.infoEng, run_loadVar_row (P := Try.prog) w' k 27 27 #[u] (0, 0) _ hk Try.underlying27 rfl Try.infoEng]
theorem IsBy.upE {w : World} {B B' : Nat} {v : Value} {n : Nat} (h : IsBy w B v n) (hB : B ≤ B') : IsBy w B' v n := by
  obtain ⟨a, cap, rfl, hm, hc⟩ := h
  exact ⟨a, cap, rfl, hm, fun i hi => by obtain ⟨b, off, h1, h2, h3⟩ := hc i hi; exact ⟨b, off, h1, by omega, h3⟩⟩
/-- What a call leaves that draws two engines. -/
def TwoEng (w : World) (e : Ending) (w' : World) : Prop :=
  ∃ (v u : Value) (cs ds : List ByteArray), e = .returned (.tuple #[.agg #[v], .agg #[u]]) ∧ IsT w' w'.heap.size v cs ∧ IsT w' w'.heap.size u ds ∧ (cs.length ≤ 8 ∧ ds.length ≤ 8) ∧ Below w.heap.size w w'
theorem RwT.c2 {w w' : World} {lo hi g b k n cap : Nat} {cs : List ByteArray} (h : RwT w lo hi (.slice (some ⟨k, 0, none⟩) n cap) cs) (c : C2 g b w w') (h1 : k ≠ g) (h2 : k ≠ b) : RwT w' lo hi (.slice (some ⟨k, 0, none⟩) n cap) cs :=
  h.cong (c.block k h.lt.2.2 h1 h2) (Nat.le_refl _)
set_option maxHeartbeats 3200000 in
theorem c_DrawAddEngines (w : World) (v : Value) (nb : Nat) (hv : IsBy w w.heap.size v nb) :
    Calls Try.prog 35 #[v] w (TwoEng w) := by
  have hs1 : (w.alloc (.cells #[.slice none 0 0] 27)).heap.size = w.heap.size + 1 := by simp
  have b1 := RetRow.e1 w (.cells #[.slice none 0 0] 27)
  have b2 := RetRow.e1 (w.alloc (.cells #[.slice none 0 0] 27)) (.cells #[.slice none 0 0] 27)
  have g0 := eng_alloc w (.slice none 0 0) 27
  have g1 := eng_alloc (w.alloc (.cells #[.slice none 0 0] 27)) (.slice none 0 0) 27
  rw [hs1] at g1 b2
  have b3 := b1.trans (b2.mono (by omega))
  replace g0 := (b2.block w.heap.size (by omega)).trans g0
  have hv1 := IsBy.upE (hv.below b3 (Nat.le_refl _)) b3.size
  obtain ⟨wA, hwA⟩ : ∃ x, (w.alloc (.cells #[.slice none 0 0] 27)).alloc (.cells #[.slice none 0 0] 27) = x := ⟨_, rfl⟩
  rw [hwA] at b3 g0 g1 hv1
  have hsA : Hid (wA.heap.size = w.heap.size + 1 + 1) := by show _ = _; rw [← hwA]; simp
  obtain ⟨gP, hgP⟩ : ∃ x, w.heap.size = x := ⟨_, rfl⟩
  have hwP : w.heap.size ≤ gP := by omega
  have hPw : gP ≤ w.heap.size := by omega
  obtain ⟨gQ, hgQ⟩ : ∃ x, gP + 1 = x := ⟨_, rfl⟩
  have hPQ : gP < gQ := by omega
  have hQA : gQ < wA.heap.size := by have := hsA.out; omega
  rw [hgP] at g0 g1
  rw [hgQ] at g1
  have HP := hid g0
  have HQ := hid g1
  clear b1 b2 g0 g1 hs1 hv
  go_enter Try.func35, Try.ntmps35
  go_wp2_with fail
  refine (c_l9Open _ _ _ hv1).mono ?_
  rintro e w1 ⟨rfl, r, c, sz1⟩
  have s1 := c.size
  obtain ⟨g, hg⟩ : ∃ x, wA.heap.size = x := ⟨_, rfl⟩
  have hgA : wA.heap.size ≤ g := by omega
  have hAg : g ≤ wA.heap.size := by omega
  rw [hg] at r
  have hgl := r.lt
  replace HP := hid ((c.block gP (by omega)).trans HP.out)
  replace HQ := hid ((c.block gQ (by omega)).trans HQ.out)
  replace b3 := b3.trans (c.mono b3.size)
  have HSZ1 := hid sz1
  clear c hv1 sz1
  rw [hg]
  clear hg
  go_wp2_with fail
  refine (c_l3Some _ g g 0 (by omega) r).mono ?_
  clear r
  rintro e w2 ⟨ga, ca, cs, rfl, ra, hga, ⟨ha1, ha8⟩, hasz, r, c⟩
  have s2 := c.size
  replace HP := hid ((c.block gP (by omega) (by omega)).trans HP.out)
  replace HQ := hid ((c.block gQ (by omega) (by omega)).trans HQ.out)
  replace b3 := b3.trans (c.below (by omega) (by omega))
  have HASZ := hid hasz
  clear c hasz
  have bX := RetRow.e1 w2 (.cells #[.slice (some ⟨ga, 0, none⟩) cs.length ca] 27)
  have hX := eng_alloc w2 (.slice (some ⟨ga, 0, none⟩) cs.length ca) 27
  have hal := ra.lt.2.2
  have ra := ra.below bX (by omega)
  have r := r.below bX (by omega)
  have HP := hid ((bX.block gP (by omega)).trans HP.out)
  have HQ := hid ((bX.block gQ (by omega)).trans HQ.out)
  have b4 := b3.trans (bX.mono b3.size)
  have sX := bX.size
  have hXl : w2.heap.size < (w2.alloc (.cells #[.slice (some ⟨ga, 0, none⟩) cs.length ca] 27)).heap.size := by simp
  obtain ⟨g5, hg5⟩ : ∃ x, w2.heap.size = x := ⟨_, rfl⟩
  have hg5a : w2.heap.size ≤ g5 := by omega
  have hg5b : g5 ≤ w2.heap.size := by omega
  rw [hg5] at hX
  obtain ⟨wB, hwB⟩ : ∃ x, w2.alloc (.cells #[.slice (some ⟨ga, 0, none⟩) cs.length ca] 27) = x := ⟨_, rfl⟩
  rw [hwB] at hX ra r HP HQ b4 sX hXl
  have HX := hid hX
  have x5 := row_cell hX 0
  clear bX hX b3
  go_wp2_with fail
  clear hwB hg5 hwA
  refine (c_l3Copy _ cs _ (by omega) (by omega) (ra.isT.up (by omega))).mono ?_
  rintro e w3 ⟨gc, cb, rfl, rc, c⟩
  have s3 := c.size
  have hcl := rc.lt
  replace ra := ra.below c (by omega)
  replace r := r.below c (by omega)
  replace HP := hid ((c.block gP (by omega)).trans HP.out)
  replace HQ := hid ((c.block gQ (by omega)).trans HQ.out)
  replace HX := hid ((c.block g5 (by omega)).trans HX.out)
  replace b4 := b4.trans (c.mono b4.size)
  clear c x5
  have bX := RetRow.e1 w3 (.cells #[.slice (some ⟨gc, 0, none⟩) cs.length cb] 27)
  have hY := eng_alloc w3 (.slice (some ⟨gc, 0, none⟩) cs.length cb) 27
  have ra := ra.below bX (by omega)
  have r := r.below bX (by omega)
  have rc := rc.below bX (by omega)
  have HP := hid ((bX.block gP (by omega)).trans HP.out)
  have HQ := hid ((bX.block gQ (by omega)).trans HQ.out)
  have HX := hid ((bX.block g5 (by omega)).trans HX.out)
  have b5 := b4.trans (bX.mono b4.size)
  have sY := bX.size
  have hYl : w3.heap.size < (w3.alloc (.cells #[.slice (some ⟨gc, 0, none⟩) cs.length cb] 27)).heap.size := by simp
  obtain ⟨g6, hg6⟩ : ∃ x, w3.heap.size = x := ⟨_, rfl⟩
  have hg6a : w3.heap.size ≤ g6 := by omega
  have hg6b : g6 ≤ w3.heap.size := by omega
  rw [hg6] at hY
  obtain ⟨wC, hwC⟩ : ∃ x, w3.alloc (.cells #[.slice (some ⟨gc, 0, none⟩) cs.length cb] 27) = x := ⟨_, rfl⟩
  rw [hwC] at hY ra r rc HP HQ HX b5 sY hYl
  have HY := hid hY
  have HRC := hid rc.one
  clear bX hY b4 rc
  have rc := HRC.out
  go_wp2
  clear hwC hg6
  go_loopw [7] (fun i wr => ∃ (j : Nat) (ds : List ByteArray), j ≤ cs.length ∧ i = .int .i64 j ∧ Hid (ds.length = cs.length) ∧ RwT wr gc (gc + 1) (.slice (some ⟨gc, 0, none⟩) cs.length cb) ds ∧ Hid (∀ i, i < ds.length → (tC ds i).size ≤ 64) ∧ RwT wr ga (ga + 1) (.slice (some ⟨ga, 0, none⟩) cs.length ca) cs ∧ Hid (wr.heap[gP]? = some (.cells #[.slice none 0 0] 27 (0, 0))) ∧ Hid (wr.heap[gQ]? = some (.cells #[.slice none 0 0] 27 (0, 0))) ∧ Hid (wr.heap[g5]? = some (.cells #[.slice (some ⟨ga, 0, none⟩) cs.length ca] 27 (0, 0))) ∧ Hid (wr.heap[g6]? = some (.cells #[.slice (some ⟨gc, 0, none⟩) cs.length cb] 27 (0, 0))) ∧ Rd wr g g (1200 + 140 * j) ∧ Below w.heap.size w wr ∧ wC.heap.size ≤ wr.heap.size) (fun i _ => cs.length - (intOf i).toNat)
  case atStart => exact ⟨0, cs, Nat.zero_le _, rfl, rfl, rc, HASZ.out, ra, HP.out, HQ.out, HX.out, HY.out, r.up (by omega), b5, Nat.le_refl _⟩
  case round =>
    obtain ⟨j, ds, hj, rfl, HDL, rd, HDSZ, rA, HPr, HQr, HXr, HYr, rr, br, hCr⟩ := hrel
    clear rc ra HP HQ HX HY r b5 HRC
    have x5 := row_cell HXr.out 0
    have x6 := row_cell HYr.out 0
    have hbs := br.size
    by_cases hlt : j < cs.length
    · have q0 : (0 : Int) ≤ (j : Int) := by omega
      have q1 : (j : Int) < cs.length := by omega
      have n3 : 0 < cs.length := by omega
      have n2 : (0 : Int) < cs.length := by omega
      have ca0 := (rA.at n3).1
      have hz0 := HASZ.out 0 n3
      have hjd : j < ds.length := by rw [HDL.out]; exact hlt
      have HKK := hid (fun (w' : World) (h6 : w'.heap[g6]? = wr.heap[g6]?) (h5 : w'.heap[g5]? = wr.heap[g5]?) (ha : w'.heap[ga]? = wr.heap[ga]?) => (show (fun w' => w'.cell? ⟨g6, 0, none⟩ = some (.slice (some ⟨gc, 0, none⟩) cs.length cb) ∧ w'.cell? ⟨g5, 0, none⟩ = some (.slice (some ⟨ga, 0, none⟩) cs.length ca) ∧ w'.cell? ⟨ga, 0, none⟩ = some (.string (tC cs 0))) w' from ⟨by rw [row_cell (h6.trans HYr.out)]; rfl, by rw [row_cell (h5.trans HXr.out)]; rfl, ((rA.cong (hi' := ga + 1) ha (Nat.le_refl _)).at n3).1⟩))
      clear hjd
      go_wp2_with fail
      refine wp_region_held_drew (S := fun w' => w'.cell? ⟨g6, 0, none⟩ = some (.slice (some ⟨gc, 0, none⟩) cs.length cb) ∧ w'.cell? ⟨g5, 0, none⟩ = some (.slice (some ⟨ga, 0, none⟩) cs.length ca) ∧ w'.cell? ⟨ga, 0, none⟩ = some (.string (tC cs 0))) (by kernel_rfl) ?_ (fun hHeld => ?_)
      focus (exact ⟨x6, x5, ca0⟩)
      refine take_at (i := 0) (d := some 21) (v := ?_) rfl rfl (by kernel_rfl) (by kernel_rfl) (by kernel_rfl) ?_ (Or.inl ⟨by rfl, ?_⟩) (by assumption) ?_
      rotate_left
      exact fun _ _ _ h => h
      focus (intro w hSw; (try dsimp only at hSw); go_simp; (try with_reducible rfl); done)
      (try simp only [Act.put, List.setIfInBounds_toArray, List.set_cons_zero, List.set_cons_succ])
      refine take_at (i := 1) (d := some 22) (v := ?_) rfl rfl (by kernel_rfl) (by kernel_rfl) (by kernel_rfl) ?_ (Or.inl ⟨by rfl, ?_⟩) (by assumption) ?_
      rotate_left
      exact fun _ _ _ h => h
      focus (intro w hSw; (try dsimp only at hSw); go_simp; (try with_reducible rfl); done)
      (try simp only [Act.put, List.setIfInBounds_toArray, List.set_cons_zero, List.set_cons_succ])
      refine take_at (i := 2) (d := some 23) (v := ?_) rfl rfl (by kernel_rfl) (by kernel_rfl) (by kernel_rfl) ?_ (Or.inl ⟨by rfl, ?_⟩) (by assumption) ?_
      rotate_left
      exact fun _ _ _ h => h
      focus (intro w hSw; (try dsimp only at hSw); go_simp; (try with_reducible rfl); done)
      (try simp only [Act.put, List.setIfInBounds_toArray, List.set_cons_zero, List.set_cons_succ])
      refine take_at (i := 3) (d := some 24) (v := ?_) rfl rfl (by kernel_rfl) (by kernel_rfl) (by kernel_rfl) ?_ (Or.inl ⟨by rfl, ?_⟩) (by assumption) ?_
      rotate_left
      exact fun _ _ _ h => h
      focus (intro w hSw; (try dsimp only at hSw); go_simp; (try with_reducible rfl); done)
      (try simp only [Act.put, List.setIfInBounds_toArray, List.set_cons_zero, List.set_cons_succ])
      refine take_at (i := 4) (d := some 25) (v := ?_) rfl rfl (by kernel_rfl) (by kernel_rfl) (by kernel_rfl) ?_ (Or.inl ⟨by rfl, ?_⟩) (by assumption) ?_
      rotate_left
      exact fun _ _ _ h => h
      focus (intro w hSw; (try dsimp only at hSw); go_simp; (try with_reducible rfl); done)
      (try simp only [Act.put, List.setIfInBounds_toArray, List.set_cons_zero, List.set_cons_succ])
      refine take_at (i := 5) (d := some 26) (v := ?_) rfl rfl (by kernel_rfl) (by kernel_rfl) (by kernel_rfl) ?_ (Or.inl ⟨by rfl, ?_⟩) (by assumption) ?_
      rotate_left
      exact fun _ _ _ h => h
      focus (intro w hSw; (try dsimp only at hSw); go_simp; (try with_reducible rfl); done)
      (try simp only [Act.put, List.setIfInBounds_toArray, List.set_cons_zero, List.set_cons_succ])
      refine take_at (i := 6) (d := some 27) (v := ?_) rfl rfl (by kernel_rfl) (by kernel_rfl) (by kernel_rfl) ?_ (Or.inl ⟨by rfl, ?_⟩) (by assumption) ?_
      rotate_left
      exact fun _ _ _ h => h
      focus (intro w hSw; (try dsimp only at hSw); go_simp; (try with_reducible rfl); done)
      (try simp only [Act.put, List.setIfInBounds_toArray, List.set_cons_zero, List.set_cons_succ])
      refine take_at (i := 7) (d := some 28) (v := ?_) rfl rfl (by kernel_rfl) (by kernel_rfl) (by kernel_rfl) ?_ (Or.inl ⟨by rfl, ?_⟩) (by assumption) ?_
      rotate_left
      exact fun _ _ _ h => h
      focus (intro w hSw; (try dsimp only at hSw); go_simp; (try with_reducible rfl); done)
      (try simp only [Act.put, List.setIfInBounds_toArray, List.set_cons_zero, List.set_cons_succ])
      refine take_at (i := 8) (d := some 29) (v := ?_) rfl rfl (by kernel_rfl) (by kernel_rfl) (by kernel_rfl) ?_ (Or.inl ⟨by rfl, ?_⟩) (by assumption) ?_
      rotate_left
      exact fun _ _ _ h => h
      focus (intro w hSw; (try dsimp only at hSw); go_simp; (try with_reducible rfl); done)
      (try simp only [Act.put, List.setIfInBounds_toArray, List.set_cons_zero, List.set_cons_succ])
      refine wpAnyH_ready (rs := [9]) (by kernel_rfl) (by simp) ?_
      refine AllReadyH.cons (o := _) rfl (fun K hK => ?_) AllReadyH.nil
      go_simp
      refine (c_l1Some wr.drew g g _ (tC cs 0).size (by omega) hz0 (show Rd wr.drew g g _ from rr)).mono ?_
      rintro e w5 ⟨s, rfl, hs, r5, c⟩
      have s5 : wr.heap.size ≤ w5.heap.size := c.size
      have c5 : Chg g (g + 1) wr w5 := ⟨c.os, c.tape, c.output, c.size, c.block⟩
      have e6 := c5.block g6 (by omega) (by omega)
      have e5 := c5.block g5 (by omega) (by omega)
      have ea := c5.block ga (by omega) (by omega)
      refine hK.out _ _ (HKK.out _ e6 e5 ea) (fun hHeld => ?_)
      clear hK c
      (try simp only [Act.put, List.setIfInBounds_toArray, List.set_cons_zero, List.set_cons_succ])
      refine take_at (i := 10) (d := some 31) (v := ?_) rfl rfl (by kernel_rfl) (by kernel_rfl) (by kernel_rfl) ?_ (Or.inl ⟨by rfl, ?_⟩) (by assumption) ?_
      rotate_left
      exact fun _ _ _ h => h
      focus (intro w hSw; (try dsimp only at hSw); go_simp; (try with_reducible rfl); done)
      (try simp only [Act.put, List.setIfInBounds_toArray, List.set_cons_zero, List.set_cons_succ])
      have rd5 := rd.keep c5 (by omega)
      have hjd : j < ds.length := by rw [HDL.out]; exact hlt
      obtain ⟨cc, ff⟩ := rd5.at hjd
      have rd6 := rd5.set hjd (s := s) (by unfold maxLen; omega)
      have HSS := hid (show ∀ i, i < (ds.set j s).length → (tC (ds.set j s) i).size ≤ 64 from fun i hi => by
        have hi' : i < ds.length := by simpa using hi
        rw [tC_set hjd]; split
        · exact hs
        · exact HDSZ.out i hi')
      clear hjd
      have b6 := (br.trans (c5.below (by omega) (by omega))).setCell (p := ⟨gc, j, none⟩) (show w.heap.size ≤ gc by omega) (.string s)
      have rA6 := (rA.keep c5 (by omega)).cong (w' := w5.setCell ⟨gc, j, none⟩ (.string s)) (hi' := ga + 1) (Below.heap_setCell w5 ⟨gc, j, none⟩ _ ga (show ga ≠ gc by omega)) (Nat.le_refl _)
      have HP6 := hid ((Below.heap_setCell w5 ⟨gc, j, none⟩ (.string s) gP (show gP ≠ gc by omega)).trans ((c5.block gP (by omega) (by omega)).trans HPr.out))
      have HQ6 := hid ((Below.heap_setCell w5 ⟨gc, j, none⟩ (.string s) gQ (show gQ ≠ gc by omega)).trans ((c5.block gQ (by omega) (by omega)).trans HQr.out))
      have f5 := (Below.heap_setCell w5 ⟨gc, j, none⟩ (.string s) g5 (show g5 ≠ gc by omega)).trans e5
      have f6 := (Below.heap_setCell w5 ⟨gc, j, none⟩ (.string s) g6 (show g6 ≠ gc by omega)).trans e6
      have fa := (Below.heap_setCell w5 ⟨gc, j, none⟩ (.string s) ga (show ga ≠ gc by omega)).trans ea
      have r6 := r5.chg (set_chgE w5 gc j (.string s)) (by omega) (by omega)
      have hC6 : wC.heap.size ≤ (w5.setCell ⟨gc, j, none⟩ (.string s)).heap.size := by simp; omega
      refine wpAnyH_ready (rs := [11]) (by kernel_rfl) (by simp) ?_
      refine AllReadyH.cons (o := _) rfl (fun K hK => ?_) AllReadyH.nil
      go_simp
      refine hK.out _ _ ?_ (fun hHeld => ?_)
      focus (exact HKK.out _ f6 f5 fa)
      clear hK
      (try simp only [Act.put, List.setIfInBounds_toArray, List.set_cons_zero, List.set_cons_succ])
      clear hHeld cc ff
      refine wpAnyH_done (by kernel_rfl) ?_ _
      go_wp2
      go_roundw
      case rel => exact ⟨j + 1, ds.set j s, by omega, by go_num, by show _ = _; rw [List.length_set]; exact HDL.out, rd6, HSS.out, rA6, HP6.out, HQ6.out, f5.trans HXr.out, f6.trans HYr.out, r6.up (by omega), b6, hC6⟩
      case measure => simp [intOf]; omega
    · obtain rfl : j = cs.length := by omega
      have hng : ¬ (cs.length : Int) < cs.length := by omega
      go_wp2_with fail
      refine (c_pick _ _ _ _ _ (by omega) (by omega) rr).mono ?_
      clear rr
      rintro e w6 ⟨x, rfl, q, r6, c6⟩
      obtain ⟨x0, x1⟩ := q.1 (by omega)
      have s6 := c6.size
      have rA6 := rA.keep c6 (by omega)
      have rd6 := rd.keep c6 (by omega)
      have HP6 := hid ((c6.block gP (by omega) (by omega)).trans HPr.out)
      have HQ6 := hid ((c6.block gQ (by omega) (by omega)).trans HQr.out)
      have HX6 := hid ((c6.block g5 (by omega) (by omega)).trans HXr.out)
      have HY6 := hid ((c6.block g6 (by omega) (by omega)).trans HYr.out)
      have b6 := br.trans (c6.below (by omega) (by omega))
      clear q c6 rA rd HPr HQr HXr HYr br x5 x6
      by_cases hx : x = 0
      · have tx : (x == 0) = true := by simpa using hx
        clear hx
        go_wp2_with fail
        refine (c_l3Some _ g g _ (by omega) r6).mono ?_
        clear r6
        rintro e w6' ⟨gd, cd, ds, rfl, rd7', hgd, ⟨hd1, hd8⟩, hdsz, r7', c⟩
        have HDSZ := hid hdsz
        have s7' := c.size
        have ra7' := rA6.keep c (by omega)
        have HP7' := hid ((c.block gP (by omega) (by omega)).trans HP6.out)
        have HQ7' := hid ((c.block gQ (by omega) (by omega)).trans HQ6.out)
        have HX7' := hid ((c.block g5 (by omega) (by omega)).trans HX6.out)
        have HY7' := hid ((c.block g6 (by omega) (by omega)).trans HY6.out)
        have b7' := b6.trans (c.below (by omega) (by omega))
        have x6 := row_cell HY7'.out 0
        have f6 := row_free HY7'.out 0
        have ra7 := ra7'.cong (w' := w6'.setCell ⟨g6, 0, none⟩ (.slice (some ⟨gd, 0, none⟩) ds.length cd)) (hi' := ga + 1) (Below.heap_setCell w6' ⟨g6, 0, none⟩ _ ga (show ga ≠ g6 by omega)) (Nat.le_refl _)
        have rd7 := rd7'.cong (w' := w6'.setCell ⟨g6, 0, none⟩ (.slice (some ⟨gd, 0, none⟩) ds.length cd)) (hi' := gd + 1) (Below.heap_setCell w6' ⟨g6, 0, none⟩ _ gd (show gd ≠ g6 by omega)) (Nat.le_refl _)
        have HP7 := hid ((Below.heap_setCell w6' ⟨g6, 0, none⟩ (.slice (some ⟨gd, 0, none⟩) ds.length cd) gP (show gP ≠ g6 by omega)).trans HP7'.out)
        have HQ7 := hid ((Below.heap_setCell w6' ⟨g6, 0, none⟩ (.slice (some ⟨gd, 0, none⟩) ds.length cd) gQ (show gQ ≠ g6 by omega)).trans HQ7'.out)
        have HX7 := hid ((Below.heap_setCell w6' ⟨g6, 0, none⟩ (.slice (some ⟨gd, 0, none⟩) ds.length cd) g5 (show g5 ≠ g6 by omega)).trans HX7'.out)
        have HY7 := hid (row_set HY7'.out 0 (.slice (some ⟨gd, 0, none⟩) ds.length cd))
        have r7 := r7'.chg (set_chgE w6' g6 0 (.slice (some ⟨gd, 0, none⟩) ds.length cd)) (by omega) (by omega)
        have b7 := b7'.setCell (p := ⟨g6, 0, none⟩) (show w.heap.size ≤ g6 by omega) (.slice (some ⟨gd, 0, none⟩) ds.length cd)
        have s7 : w6.heap.size ≤ (w6'.setCell ⟨g6, 0, none⟩ (.slice (some ⟨gd, 0, none⟩) ds.length cd)).heap.size := by simpa using s7'
        have hdl7 := rd7.lt.2.2
        obtain ⟨w7, hw7⟩ : ∃ y, w6'.setCell ⟨g6, 0, none⟩ (.slice (some ⟨gd, 0, none⟩) ds.length cd) = y := ⟨_, rfl⟩
        rw [hw7] at ra7 rd7 HP7 HQ7 HX7 HY7 r7 b7 s7 hdl7
        clear c hdsz ra7' rd7' HP7' HQ7' HX7' HY7' b7' r7' rA6 rd6 HP6 HQ6 HX6 HY6 b6
        go_wp2_with fail
        clear hw7 x6 f6
        have x6 := row_cell HY7.out 0
        have x5 := row_cell HX7.out 0
        go_wp2_with fail
        refine wp_region_held_drew (S := fun w' => w'.cell? ⟨g6, 0, none⟩ = some (.slice (some ⟨gd, 0, none⟩) ds.length cd) ∧ w'.cell? ⟨g5, 0, none⟩ = some (.slice (some ⟨ga, 0, none⟩) cs.length ca)) (by kernel_rfl) ?_ (fun hHeld => ?_)
        focus (exact ⟨x6, x5⟩)
        refine take_at (i := 0) (d := some 37) (v := ?_) rfl rfl (by kernel_rfl) (by kernel_rfl) (by kernel_rfl) ?_ (Or.inl ⟨by rfl, ?_⟩) (by assumption) ?_
        rotate_left
        exact fun _ _ _ h => h
        focus (intro w hSw; (try dsimp only at hSw); go_simp; (try with_reducible rfl); done)
        (try simp only [Act.put, List.setIfInBounds_toArray, List.set_cons_zero, List.set_cons_succ])
        refine take_at (i := 1) (d := some 38) (v := ?_) rfl rfl (by kernel_rfl) (by kernel_rfl) (by kernel_rfl) ?_ (Or.inl ⟨by rfl, ?_⟩) (by assumption) ?_
        rotate_left
        exact fun _ _ _ h => h
        focus (intro w hSw; (try dsimp only at hSw); go_simp; (try with_reducible rfl); done)
        (try simp only [Act.put, List.setIfInBounds_toArray, List.set_cons_zero, List.set_cons_succ])
        refine take_at (i := 3) (d := some 40) (v := ?_) rfl rfl (by kernel_rfl) (by kernel_rfl) (by kernel_rfl) ?_ (Or.inl ⟨by rfl, ?_⟩) (by assumption) ?_
        rotate_left
        exact fun _ _ _ h => h
        focus (intro w hSw; (try dsimp only at hSw); go_simp; (try with_reducible rfl); done)
        (try simp only [Act.put, List.setIfInBounds_toArray, List.set_cons_zero, List.set_cons_succ])
        refine take_at (i := 4) (d := some 41) (v := ?_) rfl rfl (by kernel_rfl) (by kernel_rfl) (by kernel_rfl) ?_ (Or.inl ⟨by rfl, ?_⟩) (by assumption) ?_
        rotate_left
        exact fun _ _ _ h => h
        focus (intro w hSw; (try dsimp only at hSw); go_simp; (try with_reducible rfl); done)
        (try simp only [Act.put, List.setIfInBounds_toArray, List.set_cons_zero, List.set_cons_succ])
        refine wpAnyH_ready (rs := [2]) (by kernel_rfl) (by simp) ?_
        refine AllReadyH.cons (o := _) rfl (fun K hK => ?_) AllReadyH.nil
        go_simp
        refine (c_l3Bad w7.drew g g _ ga ca cs (by omega) (show Rd w7.drew g g _ from r7) (show RwT w7.drew ga (ga + 1) _ cs from ra7) ha1 ha8 HASZ.out (by omega) (by omega)).mono ?_
        rintro e w8 ⟨gb, cpb, es, rfl, rb8, hgb, hb8, r8, c⟩
        have s8 : w7.heap.size ≤ w8.heap.size := c.size
        have hgb' : gb = ga ∨ w7.heap.size ≤ gb := hgb
        have c8 : C2 g ga w7 w8 := ⟨c.os, c.tape, c.output, c.size, c.block⟩
        clear c hgb r7 ra7
        have HP8 := hid ((c8.block gP (by omega) (by omega) (by omega)).trans HP7.out)
        have HQ8 := hid ((c8.block gQ (by omega) (by omega) (by omega)).trans HQ7.out)
        have HX8 := hid ((c8.block g5 (by omega) (by omega) (by omega)).trans HX7.out)
        have HY8 := hid ((c8.block g6 (by omega) (by omega) (by omega)).trans HY7.out)
        have rd8 := rd7.c2 c8 (by omega) (by omega)
        have b8 : Below w.heap.size w w8 := b7.trans ⟨c8.os, c8.tape, c8.output, c8.size, fun k hk => c8.block k (by omega) (by omega) (by omega)⟩
        clear HP7 HQ7 HX7 HY7 rd7 b7 x6 x5
        have x6 := row_cell HY8.out 0
        have x5 := row_cell HX8.out 0
        refine hK.out _ _ ⟨x6, x5⟩ (fun hHeld => ?_)
        clear hK
        (try simp only [Act.put, List.setIfInBounds_toArray, List.set_cons_zero, List.set_cons_succ])
        refine wpAnyH_ready (rs := [5]) (by kernel_rfl) (by simp) ?_
        refine AllReadyH.cons (o := _) rfl (fun K hK => ?_) AllReadyH.nil
        go_simp
        refine (c_l3Bad w8 g g _ gd cd ds (by omega) r8 rd8 hd1 hd8 HDSZ.out (by omega) (by omega)).mono ?_
        rintro e w9 ⟨gf, cpf, fs, rfl, rf9, hgf, hf8, r9, c9⟩
        have s9 := c9.size
        have rb9 := rb8.c2 c9 (by omega) (by omega)
        have HP9 := hid ((c9.block gP (by omega) (by omega) (by omega)).trans HP8.out)
        have HQ9 := hid ((c9.block gQ (by omega) (by omega) (by omega)).trans HQ8.out)
        have HX9 := hid ((c9.block g5 (by omega) (by omega) (by omega)).trans HX8.out)
        have HY9 := hid ((c9.block g6 (by omega) (by omega) (by omega)).trans HY8.out)
        have b9 : Below w.heap.size w w9 := b8.trans ⟨c9.os, c9.tape, c9.output, c9.size, fun k hk => c9.block k (by omega) (by omega) (by omega)⟩
        clear HP8 HQ8 HX8 HY8 rb8 b8 x6 x5 c9 c8 rd8 r8
        have x6 := row_cell HY9.out 0
        have x5 := row_cell HX9.out 0
        have z0 := row_cell HP9.out 0
        have y0 := row_free HP9.out 0
        have z1 := row_cell HQ9.out 0
        have y1 := row_free HQ9.out 0
        refine hK.out _ _ ⟨x6, x5⟩ (fun hHeld => ?_)
        clear hK
        (try simp only [Act.put, List.setIfInBounds_toArray, List.set_cons_zero, List.set_cons_succ])
        refine wpAnyH_ready (rs := [6]) (by kernel_rfl) (by simp) ?_
        refine AllReadyH.cons (o := _) rfl (fun K hK => ?_) AllReadyH.nil
        go_simp
        refine hK.out _ _ ?_ (fun hHeld => ?_)
        focus (exact ⟨cell_other (show ¬ g6 = gP by omega) x6, cell_other (show ¬ g5 = gP by omega) x5⟩)
        clear hK
        (try simp only [Act.put, List.setIfInBounds_toArray, List.set_cons_zero, List.set_cons_succ])
        have HQa := hid ((Below.heap_setCell w9 ⟨gP, 0, none⟩ (.slice (some ⟨gb, 0, none⟩) es.length cpb) gQ (show gQ ≠ gP by omega)).trans HQ9.out)
        have HPa := hid (row_set HP9.out 0 (.slice (some ⟨gb, 0, none⟩) es.length cpb))
        have z1 := row_cell HQa.out 0
        have y1 := row_free HQa.out 0
        refine wpAnyH_ready (rs := [7]) (by kernel_rfl) (by simp) ?_
        refine AllReadyH.cons (o := _) rfl (fun K hK => ?_) AllReadyH.nil
        go_simp
        refine hK.out _ _ ?_ (fun hHeld => ?_)
        focus (exact ⟨cell_other (show ¬ g6 = gQ by omega) (cell_other (show ¬ g6 = gP by omega) x6), cell_other (show ¬ g5 = gQ by omega) (cell_other (show ¬ g5 = gP by omega) x5)⟩)
        clear hK
        (try simp only [Act.put, List.setIfInBounds_toArray, List.set_cons_zero, List.set_cons_succ])
        refine wpAnyH_done (by kernel_rfl) ?_ _
        have HPb := hid ((Below.heap_setCell (w9.setCell ⟨gP, 0, none⟩ (.slice (some ⟨gb, 0, none⟩) es.length cpb)) ⟨gQ, 0, none⟩ (.slice (some ⟨gf, 0, none⟩) fs.length cpf) gP (show gP ≠ gQ by omega)).trans HPa.out)
        have HQb := hid (row_set HQa.out 0 (.slice (some ⟨gf, 0, none⟩) fs.length cpf))
        have hbP : gb ≠ gP := by omega
        have hbQ : gb ≠ gQ := by omega
        have hfP : gf ≠ gP := by omega
        have hfQ : gf ≠ gQ := by omega
        have rb10 := (rb9.cong (w' := (w9.setCell ⟨gP, 0, none⟩ (.slice (some ⟨gb, 0, none⟩) es.length cpb)).setCell ⟨gQ, 0, none⟩ (.slice (some ⟨gf, 0, none⟩) fs.length cpf)) (hi' := gb + 1) ((Below.heap_setCell _ ⟨gQ, 0, none⟩ _ gb hbQ).trans (Below.heap_setCell _ ⟨gP, 0, none⟩ _ gb hbP)) (Nat.le_refl _))
        have rf10 := (rf9.cong (w' := (w9.setCell ⟨gP, 0, none⟩ (.slice (some ⟨gb, 0, none⟩) es.length cpb)).setCell ⟨gQ, 0, none⟩ (.slice (some ⟨gf, 0, none⟩) fs.length cpf)) (hi' := gf + 1) ((Below.heap_setCell _ ⟨gQ, 0, none⟩ _ gf hfQ).trans (Below.heap_setCell _ ⟨gP, 0, none⟩ _ gf hfP)) (Nat.le_refl _))
        go_wp2
        (try simp only [Exit.inBlock, Exit.then])
        refine bodyPost_eng2 rfl rfl (by rfl) (by rfl) HPb.out HQb.out ?_
        refine ⟨_, _, es, fs, rfl, rb10.isT.up (by have := rb10.lt; omega), rf10.isT.up (by have := rf10.lt; omega), ⟨hb8, hf8⟩, (b9.setCell (p := ⟨gP, 0, none⟩) (show w.heap.size ≤ gP by omega) _).setCell (p := ⟨gQ, 0, none⟩) (show w.heap.size ≤ gQ by omega) _⟩
      · have tx : (x == 0) = false := by simpa using hx
        clear hx
        have hd1 : 1 ≤ ds.length := by rw [HDL.out]; exact ha1
        have hd8 : ds.length ≤ 8 := by rw [HDL.out]; exact ha8
        have HYL := hid (show w6.heap[g6]? = some (.cells #[.slice (some ⟨gc, 0, none⟩) ds.length cb] 27 (0, 0)) by rw [HDL.out]; exact HY6.out)
        have HRL := hid (show RwT w6 gc (gc + 1) (.slice (some ⟨gc, 0, none⟩) ds.length cb) ds by rw [HDL.out]; exact rd6)
        have HY7 := HYL
        have rd7 := HRL.out
        obtain ⟨gd, hgd⟩ : ∃ x, gc = x := ⟨_, rfl⟩
        obtain ⟨cd, hcd⟩ : ∃ x, cb = x := ⟨_, rfl⟩
        subst hgd hcd
        have ra7 := rA6
        have HP7 := HP6
        have HQ7 := HQ6
        have HX7 := HX6
        have r7 := r6
        have b7 := b6
        have hdl7 := rd7.lt.2.2
        clear HYL HRL HY6 rd6
        have x6 := row_cell HY7.out 0
        have x5 := row_cell HX7.out 0
        go_wp2_with fail
        refine wp_region_held_drew (S := fun w' => w'.cell? ⟨g6, 0, none⟩ = some (.slice (some ⟨gc, 0, none⟩) ds.length cb) ∧ w'.cell? ⟨g5, 0, none⟩ = some (.slice (some ⟨ga, 0, none⟩) cs.length ca)) (by kernel_rfl) ?_ (fun hHeld => ?_)
        focus (exact ⟨x6, x5⟩)
        refine take_at (i := 0) (d := some 37) (v := ?_) rfl rfl (by kernel_rfl) (by kernel_rfl) (by kernel_rfl) ?_ (Or.inl ⟨by rfl, ?_⟩) (by assumption) ?_
        rotate_left
        exact fun _ _ _ h => h
        focus (intro w hSw; (try dsimp only at hSw); go_simp; (try with_reducible rfl); done)
        (try simp only [Act.put, List.setIfInBounds_toArray, List.set_cons_zero, List.set_cons_succ])
        refine take_at (i := 1) (d := some 38) (v := ?_) rfl rfl (by kernel_rfl) (by kernel_rfl) (by kernel_rfl) ?_ (Or.inl ⟨by rfl, ?_⟩) (by assumption) ?_
        rotate_left
        exact fun _ _ _ h => h
        focus (intro w hSw; (try dsimp only at hSw); go_simp; (try with_reducible rfl); done)
        (try simp only [Act.put, List.setIfInBounds_toArray, List.set_cons_zero, List.set_cons_succ])
        refine take_at (i := 3) (d := some 40) (v := ?_) rfl rfl (by kernel_rfl) (by kernel_rfl) (by kernel_rfl) ?_ (Or.inl ⟨by rfl, ?_⟩) (by assumption) ?_
        rotate_left
        exact fun _ _ _ h => h
        focus (intro w hSw; (try dsimp only at hSw); go_simp; (try with_reducible rfl); done)
        (try simp only [Act.put, List.setIfInBounds_toArray, List.set_cons_zero, List.set_cons_succ])
        refine take_at (i := 4) (d := some 41) (v := ?_) rfl rfl (by kernel_rfl) (by kernel_rfl) (by kernel_rfl) ?_ (Or.inl ⟨by rfl, ?_⟩) (by assumption) ?_
        rotate_left
        exact fun _ _ _ h => h
        focus (intro w hSw; (try dsimp only at hSw); go_simp; (try with_reducible rfl); done)
        (try simp only [Act.put, List.setIfInBounds_toArray, List.set_cons_zero, List.set_cons_succ])
        refine wpAnyH_ready (rs := [2]) (by kernel_rfl) (by simp) ?_
        refine AllReadyH.cons (o := _) rfl (fun K hK => ?_) AllReadyH.nil
        go_simp
        refine (c_l3Bad w6.drew g g _ ga ca cs (by omega) (show Rd w6.drew g g _ from r7) (show RwT w6.drew ga (ga + 1) _ cs from ra7) ha1 ha8 HASZ.out (by omega) (by omega)).mono ?_
        rintro e w8 ⟨gb, cpb, es, rfl, rb8, hgb, hb8, r8, c⟩
        have s8 : w6.heap.size ≤ w8.heap.size := c.size
        have hgb' : gb = ga ∨ w6.heap.size ≤ gb := hgb
        have c8 : C2 g ga w6 w8 := ⟨c.os, c.tape, c.output, c.size, c.block⟩
        clear c hgb r7 ra7
        have HP8 := hid ((c8.block gP (by omega) (by omega) (by omega)).trans HP7.out)
        have HQ8 := hid ((c8.block gQ (by omega) (by omega) (by omega)).trans HQ7.out)
        have HX8 := hid ((c8.block g5 (by omega) (by omega) (by omega)).trans HX7.out)
        have HY8 := hid ((c8.block g6 (by omega) (by omega) (by omega)).trans HY7.out)
        have rd8 := rd7.c2 c8 (by omega) (by omega)
        have b8 : Below w.heap.size w w8 := b7.trans ⟨c8.os, c8.tape, c8.output, c8.size, fun k hk => c8.block k (by omega) (by omega) (by omega)⟩
        clear HP7 HQ7 HX7 HY7 rd7 b7 x6 x5
        have x6 := row_cell HY8.out 0
        have x5 := row_cell HX8.out 0
        refine hK.out _ _ ⟨x6, x5⟩ (fun hHeld => ?_)
        clear hK
        (try simp only [Act.put, List.setIfInBounds_toArray, List.set_cons_zero, List.set_cons_succ])
        refine wpAnyH_ready (rs := [5]) (by kernel_rfl) (by simp) ?_
        refine AllReadyH.cons (o := _) rfl (fun K hK => ?_) AllReadyH.nil
        go_simp
        refine (c_l3Bad w8 g g _ gc cb ds (by omega) r8 rd8 hd1 hd8 HDSZ.out (by omega) (by omega)).mono ?_
        rintro e w9 ⟨gf, cpf, fs, rfl, rf9, hgf, hf8, r9, c9⟩
        have s9 := c9.size
        have rb9 := rb8.c2 c9 (by omega) (by omega)
        have HP9 := hid ((c9.block gP (by omega) (by omega) (by omega)).trans HP8.out)
        have HQ9 := hid ((c9.block gQ (by omega) (by omega) (by omega)).trans HQ8.out)
        have HX9 := hid ((c9.block g5 (by omega) (by omega) (by omega)).trans HX8.out)
        have HY9 := hid ((c9.block g6 (by omega) (by omega) (by omega)).trans HY8.out)
        have b9 : Below w.heap.size w w9 := b8.trans ⟨c9.os, c9.tape, c9.output, c9.size, fun k hk => c9.block k (by omega) (by omega) (by omega)⟩
        clear HP8 HQ8 HX8 HY8 rb8 b8 x6 x5 c9 c8 rd8 r8
        have x6 := row_cell HY9.out 0
        have x5 := row_cell HX9.out 0
        have z0 := row_cell HP9.out 0
        have y0 := row_free HP9.out 0
        have z1 := row_cell HQ9.out 0
        have y1 := row_free HQ9.out 0
        refine hK.out _ _ ⟨x6, x5⟩ (fun hHeld => ?_)
        clear hK
        (try simp only [Act.put, List.setIfInBounds_toArray, List.set_cons_zero, List.set_cons_succ])
        refine wpAnyH_ready (rs := [6]) (by kernel_rfl) (by simp) ?_
        refine AllReadyH.cons (o := _) rfl (fun K hK => ?_) AllReadyH.nil
        go_simp
        refine hK.out _ _ ?_ (fun hHeld => ?_)
        focus (exact ⟨cell_other (show ¬ g6 = gP by omega) x6, cell_other (show ¬ g5 = gP by omega) x5⟩)
        clear hK
        (try simp only [Act.put, List.setIfInBounds_toArray, List.set_cons_zero, List.set_cons_succ])
        have HQa := hid ((Below.heap_setCell w9 ⟨gP, 0, none⟩ (.slice (some ⟨gb, 0, none⟩) es.length cpb) gQ (show gQ ≠ gP by omega)).trans HQ9.out)
        have HPa := hid (row_set HP9.out 0 (.slice (some ⟨gb, 0, none⟩) es.length cpb))
        have z1 := row_cell HQa.out 0
        have y1 := row_free HQa.out 0
        refine wpAnyH_ready (rs := [7]) (by kernel_rfl) (by simp) ?_
        refine AllReadyH.cons (o := _) rfl (fun K hK => ?_) AllReadyH.nil
        go_simp
        refine hK.out _ _ ?_ (fun hHeld => ?_)
        focus (exact ⟨cell_other (show ¬ g6 = gQ by omega) (cell_other (show ¬ g6 = gP by omega) x6), cell_other (show ¬ g5 = gQ by omega) (cell_other (show ¬ g5 = gP by omega) x5)⟩)
        clear hK
        (try simp only [Act.put, List.setIfInBounds_toArray, List.set_cons_zero, List.set_cons_succ])
        refine wpAnyH_done (by kernel_rfl) ?_ _
        have HPb := hid ((Below.heap_setCell (w9.setCell ⟨gP, 0, none⟩ (.slice (some ⟨gb, 0, none⟩) es.length cpb)) ⟨gQ, 0, none⟩ (.slice (some ⟨gf, 0, none⟩) fs.length cpf) gP (show gP ≠ gQ by omega)).trans HPa.out)
        have HQb := hid (row_set HQa.out 0 (.slice (some ⟨gf, 0, none⟩) fs.length cpf))
        have hbP : gb ≠ gP := by omega
        have hbQ : gb ≠ gQ := by omega
        have hfP : gf ≠ gP := by omega
        have hfQ : gf ≠ gQ := by omega
        have rb10 := (rb9.cong (w' := (w9.setCell ⟨gP, 0, none⟩ (.slice (some ⟨gb, 0, none⟩) es.length cpb)).setCell ⟨gQ, 0, none⟩ (.slice (some ⟨gf, 0, none⟩) fs.length cpf)) (hi' := gb + 1) ((Below.heap_setCell _ ⟨gQ, 0, none⟩ _ gb hbQ).trans (Below.heap_setCell _ ⟨gP, 0, none⟩ _ gb hbP)) (Nat.le_refl _))
        have rf10 := (rf9.cong (w' := (w9.setCell ⟨gP, 0, none⟩ (.slice (some ⟨gb, 0, none⟩) es.length cpb)).setCell ⟨gQ, 0, none⟩ (.slice (some ⟨gf, 0, none⟩) fs.length cpf)) (hi' := gf + 1) ((Below.heap_setCell _ ⟨gQ, 0, none⟩ _ gf hfQ).trans (Below.heap_setCell _ ⟨gP, 0, none⟩ _ gf hfP)) (Nat.le_refl _))
        go_wp2
        (try simp only [Exit.inBlock, Exit.then])
        refine bodyPost_eng2 rfl rfl (by rfl) (by rfl) HPb.out HQb.out ?_
        refine ⟨_, _, es, fs, rfl, rb10.isT.up (by have := rb10.lt; omega), rf10.isT.up (by have := rf10.lt; omega), ⟨hb8, hf8⟩, (b9.setCell (p := ⟨gP, 0, none⟩) (show w.heap.size ≤ gP by omega) _).setCell (p := ⟨gQ, 0, none⟩) (show w.heap.size ≤ gQ by omega) _⟩
end Go.Proofs.Ytkaanlldjkflaaa
