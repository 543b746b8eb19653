/- What is proved here: contracts of the drawing of an engine to run, with a slip. -/
import Derived.Test.YtkaanlldjkflaaaSlr
set_option linter.unusedVariables false
set_option linter.unusedSimpArgs false
set_option maxRecDepth 100000
namespace Go.Proofs.Ytkaanlldjkflaaa
open Go.RowKit

theorem Chg.trans2 {g b : Nat} {w w1 w2 : World} (h : Chg g (g + 1) w w1) (c : C2 g b w1 w2) (hb : w.heap.size ≤ b) : Chg g (g + 1) w w2 :=
  ⟨c.os.trans h.os, c.tape.trans h.tape, c.output.trans h.output, Nat.le_trans h.size c.size, fun k hk hn => (c.block k (Nat.lt_of_lt_of_le hk h.size) (by omega) (by omega)).trans (h.block k hk hn)⟩
/-- What a call leaves that draws an engine that is sometimes none. -/
def DrOpen (w : World) (B g L : Nat) (e : Ending) (w' : World) : Prop :=
  ∃ (ga cap : Nat) (cs : List ByteArray), e = .returned (.agg #[.slice (some ⟨ga, 0, none⟩) cs.length cap]) ∧ RwT w' ga (ga + 1) (.slice (some ⟨ga, 0, none⟩) cs.length cap) cs ∧ w.heap.size ≤ ga ∧ cs.length ≤ 8 ∧ Rd w' B g L ∧ Chg g (g + 1) w w'
theorem c_l3Open (w : World) (B g L : Nat) (hL : L ≤ 40000) (r : Rd w B g L) :
    Calls Try.prog 60 #[.pointer (some ⟨g, 0, none⟩)] w (DrOpen w B g (L + 1204)) := by
  have hgl := r.lt
  have hge := r.ge
  have b1 := RetRow.e1 w (.cells #[.slice none 0 0] 27)
  have g0 := eng_alloc w (.slice none 0 0) 27
  have r1 := r.below b1 hgl
  have cA : Chg g (g + 1) w (w.alloc (.cells #[.slice none 0 0] 27)) := (Chg.refl g (g + 1) w).bel b1 (Nat.le_refl _)
  obtain ⟨wA, hwA⟩ : ∃ x, w.alloc (.cells #[.slice none 0 0] 27) = x := ⟨_, rfl⟩
  rw [hwA] at g0 r1 cA
  obtain ⟨gP, hgP⟩ : ∃ x, w.heap.size = x := ⟨_, rfl⟩
  have hwP : w.heap.size ≤ gP := by omega
  have hPw : gP ≤ w.heap.size := by omega
  rw [hgP] at g0
  have hPl := (Array.getElem?_eq_some_iff.1 g0).1
  have HP := hid g0
  clear b1 g0 r
  go_enter Try.func60, Try.ntmps60
  go_wp2_with fail
  (try clear hwA)
  (try clear hgP)
  refine (c_l3Some _ B g L (by omega) r1).mono ?_
  clear r1
  rintro e w2 ⟨ga, ca, cs, rfl, ra, hga, ⟨ha1, ha8⟩, hasz, r, c⟩
  have s2 := c.size
  replace HP := hid ((c.block gP (by omega) (by omega)).trans HP.out)
  replace cA := cA.trans c
  clear c
  go_wp2_with fail
  refine (c_l3Bad _ B g _ ga ca cs (by omega) r ra ha1 ha8 hasz (by omega) (by omega)).mono ?_
  clear r ra
  rintro e w3 ⟨gb, cb, es, rfl, rb, hgb, hb8, r, c⟩
  have s3 := c.size
  have HP3 := hid ((c.block gP (by omega) (by omega) (by omega)).trans HP.out)
  have c3 : Chg g (g + 1) w w3 := cA.trans2 c (by omega)
  have z0 := row_cell HP3.out 0
  have f0 := row_free HP3.out 0
  have HF := hid (row_set HP3.out 0 (.slice (some ⟨gb, 0, none⟩) es.length cb))
  have r4 := r.chg (set_chgE w3 gP 0 (.slice (some ⟨gb, 0, none⟩) es.length cb)) (by omega) (by omega)
  have c4 := c3.setNew (p := ⟨gP, 0, none⟩) (show w.heap.size ≤ gP by omega) (.slice (some ⟨gb, 0, none⟩) es.length cb)
  have rb4 := rb.cong (w' := w3.setCell ⟨gP, 0, none⟩ (.slice (some ⟨gb, 0, none⟩) es.length cb)) (hi' := gb + 1) (Below.heap_setCell w3 ⟨gP, 0, none⟩ _ gb (show gb ≠ gP by omega)) (Nat.le_refl _)
  clear c HP r rb hasz
  go_wp2
  (try simp only [Exit.inBlock, Exit.then])
  refine bodyPost_eng rfl rfl (by rfl) HF.out ?_
  exact ⟨gb, cb, es, rfl, rb4, by omega, hb8, r4, c4⟩
/-- What is left by a call that draws an engine and a number. -/
def EngInt (w : World) (e : Ending) (w' : World) : Prop :=
  ∃ (a : Option Addr) (cap : Nat) (cs : List ByteArray) (n : Int), e = .returned (.tuple #[.agg #[.slice a cs.length cap], .int .i64 n]) ∧ I64 n ∧ IsT w' w'.heap.size (.slice a cs.length cap) cs ∧ cs.length ≤ 8 ∧ Below w.heap.size w w'
set_option maxHeartbeats 1600000 in
theorem c_DrawRunEngine (w : World) (v : Value) (nb : Nat) (hv : IsBy w w.heap.size v nb) :
    Calls Try.prog 55 #[v] w (EngInt w) := by
  have b1 := RetRow.e1 w (.cells #[.slice none 0 0] 27)
  have g0 := eng_alloc w (.slice none 0 0) 27
  have hv1 := IsBy.upE (hv.below b1 (Nat.le_refl _)) b1.size
  obtain ⟨wA, hwA⟩ : ∃ x, w.alloc (.cells #[.slice none 0 0] 27) = x := ⟨_, rfl⟩
  rw [hwA] at g0 b1 hv1
  obtain ⟨gP, hgP⟩ : ∃ x, w.heap.size = x := ⟨_, rfl⟩
  have hwP : w.heap.size ≤ gP := by omega
  rw [hgP] at g0
  have hPl := (Array.getElem?_eq_some_iff.1 g0).1
  have HP := hid g0
  clear g0 hv
  go_enter Try.func55, Try.ntmps55
  go_wp2_with fail
  (try clear hwA)
  (try clear hgP)
  refine (c_l9Open _ _ _ hv1).mono ?_
  rintro e w1 ⟨rfl, r, c, sz1⟩
  have s1 := c.size
  obtain ⟨g, hg⟩ : ∃ x, wA.heap.size = x := ⟨_, rfl⟩
  have hgA : wA.heap.size ≤ g := by omega
  have hAg : g ≤ wA.heap.size := by omega
  rw [hg] at r
  have hgl := r.lt
  replace HP := hid ((c.block gP (by omega)).trans HP.out)
  replace b1 := b1.trans (c.mono b1.size)
  clear c hv1 sz1
  rw [hg]
  clear hg
  go_wp2_with fail
  refine (c_l3Open _ g g 0 (by omega) r).mono ?_
  clear r
  rintro e w2 ⟨ga, ca, cs, rfl, ra, hga, ha8, r, c⟩
  have s2 := c.size
  replace HP := hid ((c.block gP (by omega) (by omega)).trans HP.out)
  replace b1 := b1.trans (c.below (by omega) (by omega))
  clear c
  have hal := ra.lt.2.2
  have bX := RetRow.e1 w2 (.cells #[.slice (some ⟨ga, 0, none⟩) cs.length ca] 27)
  have hX := eng_alloc w2 (.slice (some ⟨ga, 0, none⟩) cs.length ca) 27
  have ra := ra.below bX (by omega)
  have r := r.below bX (by omega)
  have HP := hid ((bX.block gP (by omega)).trans HP.out)
  have b4 := b1.trans (bX.mono b1.size)
  have sX := bX.size
  have hXl : w2.heap.size < (w2.alloc (.cells #[.slice (some ⟨ga, 0, none⟩) cs.length ca] 27)).heap.size := by simp
  obtain ⟨g5, hg5⟩ : ∃ x, w2.heap.size = x := ⟨_, rfl⟩
  have hg5a : w2.heap.size ≤ g5 := by omega
  have hg5b : g5 ≤ w2.heap.size := by omega
  rw [hg5] at hX
  obtain ⟨wB, hwB⟩ : ∃ x, w2.alloc (.cells #[.slice (some ⟨ga, 0, none⟩) cs.length ca] 27) = x := ⟨_, rfl⟩
  rw [hwB] at hX ra r HP b4 sX hXl
  have HX := hid hX
  clear bX hX b1
  go_wp2_with fail
  clear hwB hg5
  refine (c_pick _ _ _ _ _ (by omega) (by omega) r).mono ?_
  clear r
  rintro e w3 ⟨x, rfl, q, r, c⟩
  obtain ⟨x0, x1⟩ := q.1 (by omega)
  have s3 := c.size
  replace HP := hid ((c.block gP (by omega) (by omega)).trans HP.out)
  replace HX := hid ((c.block g5 (by omega) (by omega)).trans HX.out)
  replace ra := ra.keep c (by omega)
  replace b4 := b4.trans (c.below (by omega) (by omega))
  clear c q
  have x5 := row_cell HX.out 0
  by_cases hx : x = 0
  · have tx : (x == 0) = true := by simpa using hx
    clear hx
    go_wp2_with fail
    refine wp_region_held_drew (S := fun w' => w'.cell? ⟨g5, 0, none⟩ = some (.slice (some ⟨ga, 0, none⟩) cs.length ca)) (by kernel_rfl) ?_ (fun hHeld => ?_)
    focus (exact x5)
    refine take_at (i := 0) (d := some 13) (v := ?_) rfl rfl (by kernel_rfl) (by kernel_rfl) (by kernel_rfl) ?_ (Or.inl ⟨by rfl, ?_⟩) (by assumption) ?_
    rotate_left
    exact fun _ _ _ h => h
    focus (intro w hSw; (try dsimp only at hSw); go_simp; (try with_reducible rfl); done)
    (try simp only [Act.put, List.setIfInBounds_toArray, List.set_cons_zero, List.set_cons_succ])
    refine take_at (i := 1) (d := some 14) (v := ?_) rfl rfl (by kernel_rfl) (by kernel_rfl) (by kernel_rfl) ?_ (Or.inl ⟨by rfl, ?_⟩) (by assumption) ?_
    rotate_left
    exact fun _ _ _ h => h
    focus (intro w hSw; (try dsimp only at hSw); go_simp; (try with_reducible rfl); done)
    (try simp only [Act.put, List.setIfInBounds_toArray, List.set_cons_zero, List.set_cons_succ])
    refine wpAnyH_ready (rs := [2]) (by kernel_rfl) (by simp) ?_
    refine AllReadyH.cons (o := _) rfl (fun K hK => ?_) AllReadyH.nil
    go_simp
    refine hK.out _ _ ((World.cell?_alloc_past _ _ _ (show g5 < w3.drew.heap.size from by show g5 < w3.heap.size; omega)).trans x5) (fun hHeld => ?_)
    clear hK
    (try simp only [Act.put, List.setIfInBounds_toArray, List.set_cons_zero, List.set_cons_succ])
    refine wpAnyH_ready (rs := [3]) (by kernel_rfl) (by simp) ?_
    refine AllReadyH.cons (o := _) rfl (fun K hK => ?_) AllReadyH.nil
    go_simp
    have r' : Rd w3.drew g g _ := r
    refine (c_numLit w3.drew g g _ _ [(-1), 60, 61, 9223372036854775807] rfl (by intro x hx; simp at hx; omega) (by omega) (by simp) (by simp) _ rfl r').mono ?_
    rintro e w4 ⟨y, rfl, q, r4, c⟩
    simp only [List.mem_cons, List.not_mem_nil, or_false] at q
    have c4 : Chg g (g + 1) w3 w4 := ⟨c.os, c.tape, c.output, c.size, c.block⟩
    have s4 := c4.size
    have HP4 := hid ((c4.block gP (by omega) (by omega)).trans HP.out)
    have HX4 := hid ((c4.block g5 (by omega) (by omega)).trans HX.out)
    have ra4 := ra.keep c4 (by omega)
    have b5 := b4.trans (c4.below (by omega) (by omega))
    have x4 := row_cell HX4.out 0
    have z0 := row_cell HP4.out 0
    have f0 := row_free HP4.out 0
    have HF := hid (row_set HP4.out 0 (.slice (some ⟨ga, 0, none⟩) cs.length ca))
    have ra6 := ra4.cong (w' := w4.setCell ⟨gP, 0, none⟩ (.slice (some ⟨ga, 0, none⟩) cs.length ca)) (hi' := ga + 1) (Below.heap_setCell w4 ⟨gP, 0, none⟩ _ ga (show ga ≠ gP by omega)) (Nat.le_refl _)
    have HRA := hid (ra6.isT.up (B' := (w4.setCell ⟨gP, 0, none⟩ (.slice (some ⟨ga, 0, none⟩) cs.length ca)).heap.size) (by have := ra6.lt; omega))
    have b6 := b5.setCell (p := ⟨gP, 0, none⟩) hwP (.slice (some ⟨ga, 0, none⟩) cs.length ca)
    refine hK.out _ _ x4 (fun hHeld => ?_)
    clear hK c r4 ra4 ra6 HP HX
    (try simp only [Act.put, List.setIfInBounds_toArray, List.set_cons_zero, List.set_cons_succ])
    refine wpAnyH_ready (rs := [4]) (by kernel_rfl) (by simp) ?_
    refine AllReadyH.cons (o := _) rfl (fun K hK => ?_) AllReadyH.nil
    go_simp
    refine hK.out _ _ ?_ (fun hHeld => ?_)
    focus (exact cell_other (show ¬ g5 = gP by omega) x4)
    clear hK
    (try simp only [Act.put, List.setIfInBounds_toArray, List.set_cons_zero, List.set_cons_succ])
    refine take_at (i := 5) (d := some 3) (v := ?_) rfl rfl (by kernel_rfl) (by kernel_rfl) (by kernel_rfl) ?_ (Or.inl ⟨by rfl, ?_⟩) (by assumption) ?_
    rotate_left
    exact fun _ _ _ h => h
    focus (intro w hSw; (try dsimp only at hSw); go_simp; (try with_reducible rfl); done)
    (try simp only [Act.put, List.setIfInBounds_toArray, List.set_cons_zero, List.set_cons_succ])
    refine wpAnyH_done (by kernel_rfl) ?_ _
    go_wp2
    (try simp only [Exit.inBlock, Exit.then])
    refine bodyPost_engB rfl rfl (by rfl) (by rfl) HF.out ?_
    exact ⟨_, ca, cs, y, rfl, by constructor <;> omega, HRA.out, ha8, b6⟩
  · have tx : (x == 0) = false := by simpa using hx
    clear hx
    go_wp2_with fail
    refine wp_region_held_drew (S := fun w' => w'.cell? ⟨g5, 0, none⟩ = some (.slice (some ⟨ga, 0, none⟩) cs.length ca)) (by kernel_rfl) ?_ (fun hHeld => ?_)
    focus (exact x5)
    refine take_at (i := 0) (d := some 17) (v := ?_) rfl rfl (by kernel_rfl) (by kernel_rfl) (by kernel_rfl) ?_ (Or.inl ⟨by rfl, ?_⟩) (by assumption) ?_
    rotate_left
    exact fun _ _ _ h => h
    focus (intro w hSw; (try dsimp only at hSw); go_simp; (try with_reducible rfl); done)
    (try simp only [Act.put, List.setIfInBounds_toArray, List.set_cons_zero, List.set_cons_succ])
    refine take_at (i := 1) (d := some 18) (v := ?_) rfl rfl (by kernel_rfl) (by kernel_rfl) (by kernel_rfl) ?_ (Or.inl ⟨by rfl, ?_⟩) (by assumption) ?_
    rotate_left
    exact fun _ _ _ h => h
    focus (intro w hSw; (try dsimp only at hSw); go_simp; (try with_reducible rfl); done)
    (try simp only [Act.put, List.setIfInBounds_toArray, List.set_cons_zero, List.set_cons_succ])
    refine wpAnyH_ready (rs := [2]) (by kernel_rfl) (by simp) ?_
    refine AllReadyH.cons (o := _) rfl (fun K hK => ?_) AllReadyH.nil
    go_simp
    have r' : Rd w3.drew g g _ := r
    refine (c_pick w3.drew g g _ 20 (by omega) (by omega) r').mono ?_
    rintro e w4 ⟨y, rfl, q, r4, c⟩
    obtain ⟨y0, y1⟩ := q.1 (by omega)
    have c4 : Chg g (g + 1) w3 w4 := ⟨c.os, c.tape, c.output, c.size, c.block⟩
    have s4 := c4.size
    have HP4 := hid ((c4.block gP (by omega) (by omega)).trans HP.out)
    have HX4 := hid ((c4.block g5 (by omega) (by omega)).trans HX.out)
    have ra4 := ra.keep c4 (by omega)
    have b5 := b4.trans (c4.below (by omega) (by omega))
    have x4 := row_cell HX4.out 0
    have z0 := row_cell HP4.out 0
    have f0 := row_free HP4.out 0
    have HF := hid (row_set HP4.out 0 (.slice (some ⟨ga, 0, none⟩) cs.length ca))
    have ra6 := ra4.cong (w' := w4.setCell ⟨gP, 0, none⟩ (.slice (some ⟨ga, 0, none⟩) cs.length ca)) (hi' := ga + 1) (Below.heap_setCell w4 ⟨gP, 0, none⟩ _ ga (show ga ≠ gP by omega)) (Nat.le_refl _)
    have HRA := hid (ra6.isT.up (B' := (w4.setCell ⟨gP, 0, none⟩ (.slice (some ⟨ga, 0, none⟩) cs.length ca)).heap.size) (by have := ra6.lt; omega))
    have b6 := b5.setCell (p := ⟨gP, 0, none⟩) hwP (.slice (some ⟨ga, 0, none⟩) cs.length ca)
    refine hK.out _ _ x4 (fun hHeld => ?_)
    clear hK c r4 ra4 ra6 HP HX q
    (try simp only [Act.put, List.setIfInBounds_toArray, List.set_cons_zero, List.set_cons_succ])
    refine wpAnyH_ready (rs := [3]) (by kernel_rfl) (by simp) ?_
    refine AllReadyH.cons (o := _) rfl (fun K hK => ?_) AllReadyH.nil
    go_simp
    refine hK.out _ _ ?_ (fun hHeld => ?_)
    focus (exact cell_other (show ¬ g5 = gP by omega) x4)
    clear hK
    (try simp only [Act.put, List.setIfInBounds_toArray, List.set_cons_zero, List.set_cons_succ])
    refine take_at (i := 4) (d := some 3) (v := ?_) rfl rfl (by kernel_rfl) (by kernel_rfl) (by kernel_rfl) ?_ (Or.inl ⟨by rfl, ?_⟩) (by assumption) ?_
    rotate_left
    exact fun _ _ _ h => h
    focus (intro w hSw; (try dsimp only at hSw); go_simp; (try with_reducible rfl); done)
    (try simp only [Act.put, List.setIfInBounds_toArray, List.set_cons_zero, List.set_cons_succ])
    refine wpAnyH_done (by kernel_rfl) ?_ _
    go_wp2
    (try simp only [Exit.inBlock, Exit.then])
    refine bodyPost_engB rfl rfl (by rfl) (by rfl) HF.out ?_
    exact ⟨_, ca, cs, y, rfl, by constructor <;> omega, HRA.out, ha8, b6⟩
theorem bodyPost_eng5 {fn : Func} {p q1 q2 q3 q4 : Tmp} (h : fn.results = #[.cell p 27, .tmp q1, .tmp q2, .tmp q3, .tmp q4]) {a : Act} {w' : World} {g : Nat} {v u1 u2 u3 u4 : Value} {Q : Ending → World → Prop}
    (hd : a.defers = []) (hp : a.tmps.getD p undef = .pointer (some ⟨g, 0, none⟩)) (h1 : a.tmps.getD q1 undef = u1) (h2 : a.tmps.getD q2 undef = u2) (h3 : a.tmps.getD q3 undef = u3) (h4 : a.tmps.getD q4 undef = u4) (hg : w'.heap[g]? = some (.cells #[v] 27 (0, 0)))
    (hq : Q (.returned (.tuple #[.agg #[v], u1, u2, u3, u4])) w') : bodyPost Try.prog fn Q .ret a w' := by
  refine bodyPost_ret (v := .tuple #[.agg #[v], u1, u2, u3, u4]) ?_ hd hq
  have hp' : a.tmps[p]?.getD undef = .pointer (some ⟨g, 0, none⟩) := by rw [← Array.getD_eq_getD_getElem?]; exact hp
  have h1' : a.tmps[q1]?.getD undef = u1 := by rw [← Array.getD_eq_getD_getElem?]; exact h1
  have h2' : a.tmps[q2]?.getD undef = u2 := by rw [← Array.getD_eq_getD_getElem?]; exact h2
  have h3' : a.tmps[q3]?.getD undef = u3 := by rw [← Array.getD_eq_getD_getElem?]; exact h3
  have h4' : a.tmps[q4]?.getD undef = u4 := by rw [← Array.getD_eq_getD_getElem?]; exact h4
  simp [results, h, hp', h1', h2', h3', h4', asAddr, Result.andThen, run_loadVar_row (P := Try.prog) w' g 27 27 #[v] (0, 0) _ hg Try.underlying27 rfl Try.infoEng]
/-- What is left by a call that draws an engine and four numbers. -/
def EngInts (w : World) (e : Ending) (w' : World) : Prop :=
  ∃ (a : Option Addr) (cap : Nat) (cs : List ByteArray) (n x y z : Int), e = .returned (.tuple #[.agg #[.slice a cs.length cap], .int .i64 n, .int .i64 x, .int .i64 y, .int .i64 z]) ∧ (I64 n ∧ I64 x ∧ I64 y ∧ I64 z) ∧ IsT w' w'.heap.size (.slice a cs.length cap) cs ∧ cs.length ≤ 8 ∧ Below w.heap.size w w'
/-- A row of strings reads as before where only the reader has changed. -/
theorem engrd {w w' : World} {B g : Nat} {v : Value} {cs : List ByteArray} (h : IsT w B v cs) (hB : B ≤ w.heap.size) (c : Chg g (g + 1) w w') (hg : ∀ o s, w.cell? ⟨g, o, none⟩ ≠ some (.string s)) : IsT w' B v cs := by
  obtain ⟨av, cap, rfl, hm, hc⟩ := h
  refine ⟨av, cap, rfl, hm, fun i hi => ?_⟩
  obtain ⟨b, off, rfl, hb, hcell, hs⟩ := hc i hi
  have hne : ¬ b = g := by rintro rfl; exact hg _ _ hcell
  exact ⟨b, off, rfl, hb, (World.cell?_of_block (w := w) (a := ⟨b, off + i, none⟩) (c.block b (by omega) (by omega))).trans hcell, hs⟩
theorem Rd.ns {w : World} {B g L : Nat} (h : Rd w B g L) : ∀ o s, w.cell? ⟨g, o, none⟩ ≠ some (.string s) := by
  intro o s e
  obtain ⟨bv, nb, p, h1, ⟨a, cap, rfl, _⟩, _⟩ := h
  rw [row_cell h1] at e
  match o, e with
  | 0, e => simp at e
  | 1, e => simp at e
  | o + 2, e => rw [Array.getElem?_eq_none (by simp)] at e; cases e
set_option maxHeartbeats 1600000 in
theorem c_DrawRunWithSlip (w : World) (v : Value) (nb : Nat) (hv : IsBy w w.heap.size v nb) :
    Calls Try.prog 22 #[v] w (EngInts w) := by
  have b1 := RetRow.e1 w (.cells #[.slice none 0 0] 27)
  have g0 := eng_alloc w (.slice none 0 0) 27
  have hv1 := IsBy.upE (hv.below b1 (Nat.le_refl _)) b1.size
  obtain ⟨wA, hwA⟩ : ∃ x, w.alloc (.cells #[.slice none 0 0] 27) = x := ⟨_, rfl⟩
  rw [hwA] at g0 b1 hv1
  obtain ⟨gP, hgP⟩ : ∃ x, w.heap.size = x := ⟨_, rfl⟩
  have hwP : w.heap.size ≤ gP := by omega
  rw [hgP] at g0
  have hPl := (Array.getElem?_eq_some_iff.1 g0).1
  have HP := hid g0
  clear g0 hv
  go_enter Try.func22, Try.ntmps22
  go_wp2_with fail
  (try clear hwA)
  (try clear hgP)
  refine (c_l9Open _ _ _ hv1).mono ?_
  rintro e w1 ⟨rfl, r, c, sz1⟩
  have s1 := c.size
  obtain ⟨g, hg⟩ : ∃ x, wA.heap.size = x := ⟨_, rfl⟩
  have hgA : wA.heap.size ≤ g := by omega
  have hAg : g ≤ wA.heap.size := by omega
  rw [hg] at r
  have hgl := r.lt
  replace HP := hid ((c.block gP (by omega)).trans HP.out)
  replace b1 := b1.trans (c.mono b1.size)
  have hv2 := IsBy.upE (hv1.below c (Nat.le_refl _)) s1
  clear c hv1 sz1
  rw [hg]
  clear hg
  go_wp2_with fail
  refine (c_DrawRunEngine _ _ _ hv2).mono ?_
  rintro e w2 ⟨ax, ca, cs, n, rfl, hn, hx, hcl, c⟩
  have s2 := c.size
  replace HP := hid ((c.block gP (by omega)).trans HP.out)
  replace r := r.below c (by omega)
  replace b1 := b1.trans (c.mono b1.size)
  clear c hv2
  have bX := RetRow.e1 w2 (.cells #[.slice ax cs.length ca] 27)
  have hX := eng_alloc w2 (.slice ax cs.length ca) 27
  have hx2 := (hx.below bX (Nat.le_refl _))
  have r := r.below bX (by omega)
  have HP := hid ((bX.block gP (by omega)).trans HP.out)
  have b4 := b1.trans (bX.mono b1.size)
  have sX := bX.size
  have hXl : w2.heap.size < (w2.alloc (.cells #[.slice ax cs.length ca] 27)).heap.size := by simp
  obtain ⟨g5, hg5⟩ : ∃ x, w2.heap.size = x := ⟨_, rfl⟩
  have hg5a : w2.heap.size ≤ g5 := by omega
  have hg5b : g5 ≤ w2.heap.size := by omega
  rw [hg5] at hX
  obtain ⟨wB, hwB⟩ : ∃ x, w2.alloc (.cells #[.slice ax cs.length ca] 27) = x := ⟨_, rfl⟩
  rw [hwB] at hX hx2 r HP b4 sX hXl
  have HX := hid hX
  clear bX hX b1 hx
  go_wp2_with fail
  clear hwB hg5
  refine (c_l4Turn _ _ _ _ (by omega) r).mono ?_
  have hns := r.ns
  clear r
  rintro e w3 ⟨x, y, z, rfl, ⟨hx1, hy1, hz1⟩, r, c⟩
  have s3 := c.size
  have HP3 := hid ((c.block gP (by omega) (by omega)).trans HP.out)
  have HX3 := hid ((c.block g5 (by omega) (by omega)).trans HX.out)
  have hx3 := engrd hx2 (by omega) c hns
  have b5 := b4.trans (c.below (by omega) (by omega))
  have x3 := row_cell HX3.out 0
  have z0 := row_cell HP3.out 0
  have f0 := row_free HP3.out 0
  have HF := hid (row_set HP3.out 0 (.slice ax cs.length ca))
  have HRA := hid ((hx3.setNS (g := gP) (j := 0) (u := .slice ax cs.length ca) (eng_ns HP3.out)).up (B' := (w3.setCell ⟨gP, 0, none⟩ (.slice ax cs.length ca)).heap.size) (by simp; omega))
  have b6 := b5.setCell (p := ⟨gP, 0, none⟩) hwP (.slice ax cs.length ca)
  clear c r hx2 hx3 HP HX hns b4 b5
  go_wp2
  (try simp only [Exit.inBlock, Exit.then])
  refine bodyPost_eng5 rfl rfl (by rfl) (by rfl) (by rfl) (by rfl) (by rfl) HF.out ?_
  exact ⟨_, ca, cs, n, _, _, _, rfl, ⟨hn, by assumption, by assumption, by assumption⟩, HRA.out, hcl, b6⟩
end Go.Proofs.Ytkaanlldjkflaaa
