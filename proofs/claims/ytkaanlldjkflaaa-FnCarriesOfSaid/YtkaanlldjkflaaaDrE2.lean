/- What is proved here: the contract of the drawing of an engine. -/
import Derived.Test.YtkaanlldjkflaaaDrE
set_option linter.unusedVariables false
set_option linter.unusedSimpArgs false
set_option maxRecDepth 100000
namespace Go.Proofs.Ytkaanlldjkflaaa
open Go.RowKit

theorem tC_app_left {cs : List ByteArray} {s : ByteArray} {i : Nat} (h : i < cs.length) : tC (cs ++ [s]) i = tC cs i := by
  unfold tC; rw [List.getD_eq_getElem?_getD, List.getD_eq_getElem?_getD, List.getElem?_append_left h]
theorem tC_app_last {cs : List ByteArray} {s : ByteArray} : tC (cs ++ [s]) cs.length = s := by
  unfold tC; rw [List.getD_eq_getElem?_getD, List.getElem?_append_right (Nat.le_refl _), Nat.sub_self]; rfl
theorem Chg.bel {lo hi B : Nat} {w w1 w2 : World} (h : Chg lo hi w w1) (hb : Below B w1 w2) (hB : w.heap.size ≤ B) : Chg lo hi w w2 :=
  ⟨hb.os.trans h.os, hb.tape.trans h.tape, hb.output.trans h.output, Nat.le_trans h.size hb.size, fun k hk hn => (hb.block k (by omega)).trans (h.block k hk hn)⟩
theorem OwnT.chg {w w' : World} {B lo hi : Nat} {v : Value} {cs : List ByteArray} (h : OwnT w B v cs) (c : Chg lo hi w w') (hh : hi ≤ B) : OwnT w' B v cs :=
  ⟨ownsRow_of_block h.1 fun k hk => c.block k (h.1.lt k hk).2 (by have := (h.1.lt k hk).1; omega), h.2⟩
theorem OwnT.below {w w' : World} {B B' : Nat} {v : Value} {cs : List ByteArray} (h : OwnT w B v cs) (hb : Below B' w w') (hs : w.heap.size ≤ B') : OwnT w' B v cs :=
  ⟨ownsRow_of_block h.1 fun k hk => hb.block k (by have := (h.1.lt k hk).2; omega), h.2⟩
theorem OwnT.nil (w : World) (B : Nat) : OwnT w B (.slice none 0 0) [] := ⟨World.ownsRow_nil _ _ _ _, fun i hi => by simp at hi⟩
theorem wpList_appT1 {ops : Array Oper} {rest : List Oper} {o : Oper} {a : Act} {Q : Exit → Act → World → Prop} {w : World} {y : ByteArray} (hgd : o.guard = none) (s x : Operand) (T : TypeId)
    (ho : o.op = .call { callee := .builtin .append, args := #[s, x], argTypes := #[T, T] }) (hT : Try.prog.underlying T = some (.slice 9))
    (B : Nat) (v : Value) (cs : List ByteArray) (hs : a.eval s = v) (hx : a.eval x = .slice (some ⟨w.heap.size, 0, none⟩) 1 1) (hown : OwnT w B v cs) (hn : cs.length ≤ 1000000) (hy : y.size ≤ maxLen) (hbase : B ≤ w.heap.size)
    (h : ∀ v' w', OwnT w' B v' (cs ++ [y]) → Below B w w' → wpList Try.prog ops Q rest (a.put o.dst v') w') :
    wpList Try.prog ops Q (o :: rest) a (w.alloc (.cells #[.string y] 9)) := by
  obtain ⟨i0, hi, hz0, hz1, hz2⟩ := info_parts Try.infoStr
  refine wpList_append_own _ hgd s x T ho B 9 i0 _ 1 16 hT hi hz0 hz1 hz2 rfl (by omega) v cs.length _ hs (World.ownsRow.alloc hown.1 _) ⟨w.heap.size, 0, none⟩ 1 1 [.string y] hx (by simp) ?_ (by simp [Value.oneCell']) (by unfold maxLen; omega) (by omega) (by simp; omega) ?_
  · intro j u hu
    have hadd : (⟨w.heap.size, 0, none⟩ : Addr).add j = ⟨w.heap.size, j, none⟩ := by unfold Addr.add; split <;> simp_all
    rw [hadd, World.cell?_alloc_at _ _ _ _ rfl]; simpa using hu
  · intro v' w' hown' hg _
    refine h v' w' ⟨by simpa using hown', fun i hi => ?_⟩ (((Below.refl _ _).alloc hbase _).grown hg (by simp; omega) (fun k hk => (World.ownsRow.lt hown.1 k hk).1))
    rw [List.length_append, List.length_singleton] at hi
    by_cases e : i < cs.length
    · rw [tC_app_left e]; exact hown.2 i e
    · obtain rfl : i = cs.length := by omega
      rw [tC_app_last]; exact hy
theorem OwnT.form1 {w : World} {B : Nat} {v : Value} {cs : List ByteArray} (h : OwnT w B v cs) (h0 : 0 < cs.length) : ∃ g cap n, n = cs.length ∧ v = .slice (some ⟨g, 0, none⟩) n cap := by
  obtain ⟨g, cap, rfl⟩ := (h.rwT h0 (Nat.le_refl _)).form
  exact ⟨g, cap, _, rfl, rfl⟩
/-- What a call leaves that draws an engine. -/
def DrEng (w : World) (B g L : Nat) (e : Ending) (w' : World) : Prop :=
  ∃ (ga cap : Nat) (cs : List ByteArray), e = .returned (.agg #[.slice (some ⟨ga, 0, none⟩) cs.length cap]) ∧ RwT w' ga (ga + 1) (.slice (some ⟨ga, 0, none⟩) cs.length cap) cs ∧ w.heap.size ≤ ga ∧ (1 ≤ cs.length ∧ cs.length ≤ 8) ∧ (∀ i, i < cs.length → (tC cs i).size ≤ 64) ∧ Rd w' B g L ∧ Chg g (g + 1) w w'
theorem RwT.one {w : World} {lo hi g n cap : Nat} {cs : List ByteArray} (h : RwT w lo hi (.slice (some ⟨g, 0, none⟩) n cap) cs) : RwT w g (g + 1) (.slice (some ⟨g, 0, none⟩) n cap) cs := by
  obtain ⟨g', cap', cur, hv, hg, rest⟩ := h
  simp only [Value.slice.injEq, Option.some.injEq, Addr.mk.injEq, and_true] at hv
  obtain ⟨rfl, rfl, rfl⟩ := hv
  exact ⟨g, cap, cur, rfl, ⟨Nat.le_refl _, Nat.lt_succ_self _⟩, rest⟩
set_option maxHeartbeats 3200000 in
theorem c_l3Some (w : World) (B g L : Nat) (hL : L ≤ 40000) (r : Rd w B g L) :
    Calls Try.prog 68 #[.pointer (some ⟨g, 0, none⟩)] w (DrEng w B g (L + 1200)) := by
  have hsz := r.lt
  have hge := r.ge
  have hs1 : (w.alloc (.cells #[.slice none 0 0] 27)).heap.size = w.heap.size + 1 := by simp
  have b1 := RetRow.e1 w (.cells #[.slice none 0 0] 27)
  have b2 := RetRow.e1 (w.alloc (.cells #[.slice none 0 0] 27)) (.cells #[.slice none 0 0] 27)
  have g0 := eng_alloc w (.slice none 0 0) 27
  have g1 := eng_alloc (w.alloc (.cells #[.slice none 0 0] 27)) (.slice none 0 0) 27
  rw [hs1] at g1 b2
  have b3 := b1.trans (b2.mono (by omega))
  replace g0 := (b2.block w.heap.size (by omega)).trans g0
  obtain ⟨wA, hwA⟩ : ∃ x, (w.alloc (.cells #[.slice none 0 0] 27)).alloc (.cells #[.slice none 0 0] 27) = x := ⟨_, rfl⟩
  rw [hwA] at b3 g0 g1
  have hsA : Hid (wA.heap.size = w.heap.size + 1 + 1) := by show _ = _; rw [← hwA]; simp
  have rA := r.below b3 hsz
  have cA : Chg g (g + 1) w wA := (Chg.refl g (g + 1) w).bel b3 (Nat.le_refl _)
  obtain ⟨gR, hgR⟩ : ∃ x, w.heap.size = x := ⟨_, rfl⟩
  obtain ⟨BB, hBB⟩ : ∃ x, wA.heap.size = x := ⟨_, rfl⟩
  have hB1 : BB = (gR + 1) + 1 := by have := hsA.out; omega
  have HGR := hid hgR
  have hsz2 : g < gR := by omega
  have hwR : w.heap.size ≤ gR := by omega
  rw [hgR] at g0 g1
  have HG0 := hid g0
  have HG1 := hid g1
  have hBA : BB ≤ wA.heap.size := by omega
  clear b1 b2 b3 r g0 g1 hs1 hBB
  have x1 := row_cell HG1.out 0
  have f1 := row_free HG1.out 0
  have HG1 := hid (row_set HG1.out 0 (.slice none 0 0))
  have HG0 := hid ((Below.heap_setCell wA ⟨gR + 1, 0, none⟩ (.slice none 0 0) gR (show gR ≠ gR + 1 by omega)).trans HG0.out)
  have cA := cA.setNew (p := ⟨gR + 1, 0, none⟩) (show w.heap.size ≤ gR + 1 by omega) (.slice none 0 0)
  have rA := rA.chg (set_chgE wA (gR + 1) 0 (.slice none 0 0)) (by omega) (by omega)
  obtain ⟨wB, hwB⟩ : ∃ x, wA.setCell ⟨gR + 1, 0, none⟩ (.slice none 0 0) = x := ⟨_, rfl⟩
  have hBw0 : BB ≤ wB.heap.size := by rw [← hwB]; simpa using hBA
  rw [hwB] at HG1 HG0 cA rA
  go_enter Try.func68, Try.ntmps68
  go_wp2_with fail
  clear hwB x1 f1
  refine (c_l1Any wB B g L (by omega) rA).mono ?_
  clear rA
  rintro e w1 ⟨wd, rfl, ⟨wd0, wd1⟩, r, c⟩
  have HA0 := hid ((c.block gR (by omega) (by omega)).trans HG0.out)
  have HA1 := hid ((c.block (gR + 1) (by omega) (by omega)).trans HG1.out)
  replace cA := cA.trans c
  have s1 := c.size
  clear c HG0 HG1
  go_wp2_with fail
  refine (c_numLit _ _ _ _ _ [3, 4, 1, 2, 5, 7] rfl (by intro x hx; simp at hx; omega) (by omega) (by simp) (by simp) _ rfl r).mono ?_
  clear r
  rintro e w2 ⟨n0, rfl, q, r, c⟩
  simp only [List.mem_cons, List.not_mem_nil, or_false] at q
  have hq : 1 ≤ n0 ∧ n0 ≤ 7 := by omega
  obtain ⟨hn1, hn7⟩ := hq
  have HB0 := hid ((c.block gR (by omega) (by omega)).trans HA0.out)
  have HB1 := hid ((c.block (gR + 1) (by omega) (by omega)).trans HA1.out)
  replace cA := cA.trans c
  have s2 := c.size
  clear c HA0 HA1 q
  obtain ⟨nn, rfl⟩ : ∃ nn : Nat, n0 = nn := ⟨n0.toNat, by omega⟩
  obtain ⟨wd, rfl⟩ : ∃ x : Nat, wd = x := ⟨wd.toNat, by omega⟩
  go_wp2
  (try clear hwA hgR)
  go_loopw [5, 6] (fun x y wr => ∃ (n : Nat) (cs : List ByteArray) (v : Value), x = .int .i64 n ∧ cs.length + n = nn ∧ Hid (wr.heap[(gR + 1)]? = some (.cells #[v] 27 (0, 0))) ∧ OwnT wr BB v cs ∧ Hid (∀ i, i < cs.length → (tC cs i).size ≤ 64) ∧ Rd wr B g (L + 2 + 150 * cs.length) ∧ Chg g (g + 1) w wr ∧ Hid (wr.heap[gR]? = some (.cells #[.slice none 0 0] 27 (0, 0))) ∧ BB ≤ wr.heap.size) (fun x _ _ => (intOf x).toNat)
  case atStart => exact ⟨nn, [], _, rfl, by simp, HB1.out, OwnT.nil _ _, fun i hi => by simp at hi, r, cA, HB0.out, by omega⟩
  case round =>
    obtain ⟨n, cs, v, rfl, hcn, HX, ow, HS, rr, cr, HRR, hBw⟩ := hrel
    clear cA HB0 HB1 r
    by_cases hp : 0 < n
    · obtain ⟨m, rfl⟩ : ∃ m, n = m + 1 := ⟨n - 1, by omega⟩
      have hpi : (((m + 1 : Nat) : Int) > 0) := by omega
      have hmi : (((m + 1 : Nat) : Int) - 1) = (m : Int) := by omega
      have hcl : cs.length ≤ 6 := by omega
      go_wp2_with fail
      refine (c_l1Some _ B g _ wd (by omega) (by omega) rr).mono ?_
      clear rr
      rintro e w3 ⟨s, rfl, hs, r3, c⟩
      have HX3 := hid ((c.block (gR + 1) (by omega) (by omega)).trans HX.out)
      have HR3 := hid ((c.block gR (by omega) (by omega)).trans HRR.out)
      have o3 := ow.chg c (by omega)
      have c3 := cr.trans c
      have s3 := c.size
      clear c ow cr HX HRR
      go_wp2_with fail
      refine (c_pick _ _ _ _ _ (by omega) (by omega) r3).mono ?_
      clear r3
      rintro e w4 ⟨x, rfl, q, r4, c⟩
      obtain ⟨x0, x1⟩ := q.1 (by omega)
      have HX4 := hid ((c.block (gR + 1) (by omega) (by omega)).trans HX3.out)
      have HR4 := hid ((c.block gR (by omega) (by omega)).trans HR3.out)
      have o4 := o3.chg c (by omega)
      have c4 := c3.trans c
      have s4 := c.size
      clear c o3 c3 q HX3 HR3
      by_cases hx : 0 < x
      · go_wp2_with fail
        refine (c_pick _ _ _ _ _ (by omega) (by omega) r4).mono ?_
        clear r4
        rintro e w5 ⟨y, rfl, q, r5, c⟩
        obtain ⟨y0, y1⟩ := q.1 (by omega)
        have HX5 := hid ((c.block (gR + 1) (by omega) (by omega)).trans HX4.out)
        have HR5 := hid ((c.block gR (by omega) (by omega)).trans HR4.out)
        have o5 := o4.chg c (by omega)
        have c5 := c4.trans c
        have s5 := c.size
        clear c o4 c4 q HX4 HR4
        go_wp2_with fail
        refine (c_l1Show (y - 100) wd _ (by omega) (by omega) (by omega)).mono ?_
        rintro e w6 ⟨rfl, b⟩
        have HX4 := hid ((b.block (gR + 1) (by omega)).trans HX5.out)
        have HR4 := hid ((b.block gR (by omega)).trans HR5.out)
        have o4 := o5.below b (Nat.le_refl _)
        have c4 := c5.bel b (by have := c5.size; omega)
        have r4 := r5.below b (by have := r5.lt; omega)
        have s6 := b.size
        have hs4 : (shB (md (y - 100) (ten wd)) wd).size ≤ 64 := by rw [shB_size]; omega
        clear b o5 c5 r5 HX5 HR5 hs
        have x4 := row_cell HX4.out 0
        have f4 := row_free HX4.out 0
        go_wp2_with (at_builtin; refine wpList_appT1 rfl _ _ _ rfl Try.underlying22 BB _ cs rfl rfl o4 (by omega) (by rw [shB_size]; unfold maxLen; omega) (by have := c4.size; omega) ?_; intro v5 w5 o5 b5; obtain ⟨g5, p5, n5, hn5, hv5⟩ := o5.form1 (by simp); subst hv5; have HN5 := hid hn5; clear hn5; have HX5 := hid ((b5.block (gR + 1) (by omega)).trans HX4.out); have HR5 := hid ((b5.block gR (by omega)).trans HR4.out); have x5 := row_cell HX5.out 0; have f5 := row_free HX5.out 0; have sW5 := b5.size)
        have r5 := r4.below b5 (by omega)
        have sB5 : BB ≤ w5.heap.size := by omega
        have c5 := c4.bel b5 (by omega)
        have HX6 := hid (row_set HX5.out 0 (.slice (some ⟨g5, 0, none⟩) n5 p5))
        have r6 := r5.chg (set_chgE w5 (gR + 1) 0 (.slice (some ⟨g5, 0, none⟩) n5 p5)) (by omega) (by omega)
        have HR6 := hid ((Below.heap_setCell w5 ⟨gR + 1, 0, none⟩ (.slice (some ⟨g5, 0, none⟩) n5 p5) gR (show gR ≠ (gR + 1) by omega)).trans HR5.out)
        have c6 := c5.setNew (p := ⟨gR + 1, 0, none⟩) (show w.heap.size ≤ (gR + 1) by omega) (.slice (some ⟨g5, 0, none⟩) n5 p5)
        have o6 := o5.chg (set_chgE w5 (gR + 1) 0 (.slice (some ⟨g5, 0, none⟩) n5 p5)) (by omega)
        have HSS := hid (show ∀ i, i < (cs ++ [(shB (md (y - 100) (ten wd)) wd)]).length → (tC (cs ++ [(shB (md (y - 100) (ten wd)) wd)]) i).size ≤ 64 from fun i hi => by
          rw [List.length_append, List.length_singleton] at hi
          by_cases e : i < cs.length
          · rw [tC_app_left e]; exact HS.out i e
          · obtain rfl : i = cs.length := by omega
            rw [tC_app_last]; exact hs4)
        clear x4 f4 x5 f5 o4 o5 r5 c5 b5 r4 c4 HX4 HR4 HR5
        go_roundw
        case rel => exact ⟨m, cs ++ [(shB (md (y - 100) (ten wd)) wd)], .slice (some ⟨g5, 0, none⟩) n5 p5, by go_num, by rw [List.length_append, List.length_singleton]; omega, HX6.out, o6, HSS.out, (r6.up (by rw [List.length_append, List.length_singleton]; omega)), c6, HR6.out, by simpa using sB5⟩
        case measure => simp [intOf]
      · have hs4 : s.size ≤ 64 := hs
        have x4 := row_cell HX4.out 0
        have f4 := row_free HX4.out 0
        go_wp2_with (at_builtin; refine wpList_appT1 rfl _ _ _ rfl Try.underlying22 BB _ cs rfl rfl o4 (by omega) (by unfold maxLen; omega) (by have := c4.size; omega) ?_; intro v5 w5 o5 b5; obtain ⟨g5, p5, n5, hn5, hv5⟩ := o5.form1 (by simp); subst hv5; have HN5 := hid hn5; clear hn5; have HX5 := hid ((b5.block (gR + 1) (by omega)).trans HX4.out); have HR5 := hid ((b5.block gR (by omega)).trans HR4.out); have x5 := row_cell HX5.out 0; have f5 := row_free HX5.out 0; have sW5 := b5.size)
        have r5 := r4.below b5 (by omega)
        have sB5 : BB ≤ w5.heap.size := by omega
        have c5 := c4.bel b5 (by omega)
        have HX6 := hid (row_set HX5.out 0 (.slice (some ⟨g5, 0, none⟩) n5 p5))
        have r6 := r5.chg (set_chgE w5 (gR + 1) 0 (.slice (some ⟨g5, 0, none⟩) n5 p5)) (by omega) (by omega)
        have HR6 := hid ((Below.heap_setCell w5 ⟨gR + 1, 0, none⟩ (.slice (some ⟨g5, 0, none⟩) n5 p5) gR (show gR ≠ (gR + 1) by omega)).trans HR5.out)
        have c6 := c5.setNew (p := ⟨gR + 1, 0, none⟩) (show w.heap.size ≤ (gR + 1) by omega) (.slice (some ⟨g5, 0, none⟩) n5 p5)
        have o6 := o5.chg (set_chgE w5 (gR + 1) 0 (.slice (some ⟨g5, 0, none⟩) n5 p5)) (by omega)
        have HSS := hid (show ∀ i, i < (cs ++ [s]).length → (tC (cs ++ [s]) i).size ≤ 64 from fun i hi => by
          rw [List.length_append, List.length_singleton] at hi
          by_cases e : i < cs.length
          · rw [tC_app_left e]; exact HS.out i e
          · obtain rfl : i = cs.length := by omega
            rw [tC_app_last]; exact hs4)
        clear x4 f4 x5 f5 o4 o5 r5 c5 b5 r4 c4 HX4 HR4 HR5
        go_roundw
        case rel => exact ⟨m, cs ++ [s], .slice (some ⟨g5, 0, none⟩) n5 p5, by go_num, by rw [List.length_append, List.length_singleton]; omega, HX6.out, o6, HSS.out, (r6.up (by rw [List.length_append, List.length_singleton]; omega)), c6, HR6.out, by simpa using sB5⟩
        case measure => simp [intOf]
    · obtain rfl : n = 0 := by omega
      have hcn2 : 1 ≤ cs.length := by omega
      have hcn3 : cs.length ≤ 7 := by omega
      clear hcn
      have hr := ow.rwT (show 0 < cs.length by omega) (Nat.le_refl _)
      obtain ⟨ga, cap, hvf⟩ := hr.form
      subst hvf
      have hl := hr.lt
      have HR1 := hid hr.one
      have x4 := row_cell HX.out 0
      have z4 := row_cell HRR.out 0
      have f4 := row_free HRR.out 0
      have HF := hid (row_set HRR.out 0 (.slice (some ⟨ga, 0, none⟩) cs.length cap))
      have r6 := rr.chg (set_chgE wr gR 0 (.slice (some ⟨ga, 0, none⟩) cs.length cap)) (by have := HGR.out; omega) (by have := HGR.out; omega)
      have c6 := cr.setNew (p := ⟨gR, 0, none⟩) (show w.heap.size ≤ gR by have := HGR.out; omega) (.slice (some ⟨ga, 0, none⟩) cs.length cap)
      clear hr
      go_wp2
      (try simp only [Exit.inBlock, Exit.then])
      refine bodyPost_eng rfl rfl (by rfl) HF.out ?_
      refine ⟨ga, cap, cs, rfl, HR1.out.cong (Below.heap_setCell wr ⟨gR, 0, none⟩ _ ga (show ga ≠ gR by omega)) (Nat.le_refl _), by have := HGR.out; omega, ⟨hcn2, by omega⟩, HS.out, r6.up (by omega), c6⟩
end Go.Proofs.Ytkaanlldjkflaaa
