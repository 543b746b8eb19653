/- What is proved here: what the reference draws as a column and as an engine is valid. (Printed by gendrg.py.) -/
import Derived.Test.YtkaanlldjkflaaaDoorDrE2
set_option linter.unusedVariables false
set_option linter.unusedSimpArgs false
set_option maxRecDepth 100000
namespace Go.Proofs.YtkaanlldjkflaaaDoor
open Go.RowKit

/-- A column of width wd. -/
def GC (wd : Nat) (s : ByteArray) : Prop := CV s = true ∧ s.size = wd
theorem gc_of {s : ByteArray} {wd : Nat} (h : ∀ i, i < s.size → 48 ≤ bN s i ∧ bN s i ≤ 57) (hs : s.size = wd) (h0 : 1 ≤ wd) (h1 : wd ≤ 12) : GC wd s := ⟨CV_iff.2 ⟨by omega, h⟩, hs⟩
theorem gc_sh {v : Int} {wd : Nat} (h0 : 1 ≤ wd) (h1 : wd ≤ 12) : GC wd (shB v wd) := ⟨shB_CV h0 h1, shB_size _ _⟩
theorem gc_eng {cs : List ByteArray} {wd : Nat} (h0 : 1 ≤ cs.length) (h1 : cs.length ≤ 7) (h : ∀ i, i < cs.length → GC wd (tC cs i)) : EGV cs = true :=
  EGV_iff.2 ⟨⟨h0, h1⟩, fun i hi => ⟨(h i hi).1, by rw [(h i hi).2, (h 0 (by omega)).2]⟩⟩
theorem dg_set {ys : List Int} {j : Nat} {x : Int} (hj : j < ys.length) (h : ∀ k, k < j → 48 ≤ el ys k ∧ el ys k ≤ 57) (hx : 48 ≤ x ∧ x ≤ 57) : ∀ k, k < j + 1 → 48 ≤ el (ys.set j x) k ∧ el (ys.set j x) k ≤ 57 := by
  intro k hk
  by_cases e : k = j
  · subst e; rw [el_set_same hj]; exact hx
  · rw [el_set_other (by omega)]; exact h k (by omega)
theorem dg_str {ys : List Int} {n : Nat} (hl : ys.length = n) (h : ∀ k, k < n → 48 ≤ el ys k ∧ el ys k ≤ 57) : ∀ i, i < (strOfNums ys).size → 48 ≤ bN (strOfNums ys) i ∧ bN (strOfNums ys) i ≤ 57 := by
  intro i hi
  rw [strOfNums_size] at hi
  have := h i (by omega)
  rw [bN_nums hi (by omega) (by omega)]
  exact this
/-- What is left by a drawn column of digits. -/
def DrSG (w : World) (B g L wd : Nat) (e : Ending) (w' : World) : Prop := ∃ s : ByteArray, e = .returned (.string s) ∧ (∀ i, i < s.size → 48 ≤ bN s i ∧ bN s i ≤ 57) ∧ s.size = wd ∧ Rd w' B g L ∧ Chg g (g + 1) w w'
/-- What is left by a drawn engine that is valid. -/
def DrEngG (w : World) (B g L : Nat) (e : Ending) (w' : World) : Prop :=
  ∃ (ga cap : Nat) (cs : List ByteArray), e = .returned (.agg #[.slice (some ⟨ga, 0, none⟩) cs.length cap]) ∧ RwT w' ga (ga + 1) (.slice (some ⟨ga, 0, none⟩) cs.length cap) cs ∧ w.heap.size ≤ ga ∧ (1 ≤ cs.length ∧ cs.length ≤ 8) ∧ EGV cs = true ∧ Rd w' B g L ∧ Chg g (g + 1) w w'
theorem c_l1SomeG (w : World) (B g L wd : Nat) (hL : L ≤ 50000) (hw : wd ≤ 12) (r : Rd w B g L) :
    Calls Tryd.prog 34 #[.pointer (some ⟨g, 0, none⟩), .int .i64 wd] w (DrSG w B g (L + 140) wd) := by
  have hsz := r.lt
  have hge := r.ge
  have hmk := mk_bytes wd (by omega)
  have HM := hid (made_zeroB wd)
  generalize madeCells #[Value.int .u8 0] wd = mc at *
  go_enter Tryd.func34, Tryd.ntmps34
  go_wp2_with fail
  have cA := alloc_chg w (.cells mc 5) g (g + 1)
  have rA := r.chg (alloc_chg w (.cells mc 5) B B) (.inl (Nat.le_refl _)) (by omega)
  have bA : BlkB (w.alloc (.cells mc 5)) w.heap.size (List.replicate wd 0) := by unfold BlkB; rw [← HM.out]; exact heap_alloc_new w _
  obtain ⟨wA, hwA⟩ : ∃ x, w.alloc (.cells mc 5) = x := ⟨_, rfl⟩
  rw [hwA] at cA rA bA ⊢
  clear r hmk hwA HM
  refine (c_pick _ _ _ _ _ (by omega) (by omega) rA).mono ?_
  clear rA
  rintro e w1 ⟨m, rfl, q, r, c1⟩
  obtain ⟨m0, m1⟩ := q.1 (by omega)
  clear q
  replace bA := bA.chg c1 (by omega)
  replace cA := cA.trans c1
  clear c1
  obtain ⟨gB, hgB⟩ : ∃ x, w.heap.size = x := ⟨_, rfl⟩
  have HGB := hid hgB
  rw [hgB] at bA hsz
  go_wp2
  clear hgB
  go_loopw [7] (fun i wr => ∃ (j : Nat) (ys : List Int), j ≤ wd ∧ i = .int .i64 j ∧ Hid (ys.length = wd) ∧ Hid (∀ k, k < j → 48 ≤ el ys k ∧ el ys k ≤ 57) ∧ BlkB wr gB ys ∧ Rd wr B g (L + 1 + 2 * j) ∧ Chg g (g + 1) w wr) (fun i _ => wd - (intOf i).toNat)
  case atStart => exact ⟨0, List.replicate wd 0, Nat.zero_le _, rfl, by show _ = _; simp, fun k hk => by omega, bA, r, cA⟩
  case round =>
    obtain ⟨j, ys, hj, rfl, HY, HD, bb, rr, cr⟩ := hrel
    clear bA r cA
    by_cases hlt : j < wd
    · have q0 : (0 : Int) ≤ (j : Int) := by omega
      have q1 : (j : Int) < wd := by omega
      go_wp2_with fail
      refine (c_pick _ _ _ _ _ (by omega) (by omega) rr).mono ?_
      clear rr
      rintro e w2 ⟨x, rfl, q, r2, c2⟩
      obtain ⟨x0, x1⟩ := q.1 (by omega)
      clear q
      have b2 := bb.chg c2 (by omega)
      have c3 := cr.trans c2
      have k5 : IntKind.u8.wrap (48 + x) = 48 + x := IntWalk.u8_in _ (by omega)
      have cc := b2.cell j (by rw [HY.out]; exact hlt)
      have ff := b2.free j
      have b4 := b2.set j (48 + x)
      have HD4 := hid (dg_set (x := 48 + x) (by rw [HY.out]; exact hlt) HD.out (by omega))
      have r4 := r2.chg (set_chgE w2 gB j (.int .u8 (48 + x))) (by have := HGB.out; omega) (by omega)
      have c4 := c3.setNew (p := ⟨gB, j, none⟩) (show w.heap.size ≤ gB by have := HGB.out; omega) (.int .u8 (48 + x))
      obtain ⟨w4, hw4⟩ : ∃ y, w2.setCell ⟨gB, j, none⟩ (.int .u8 (48 + x)) = y := ⟨_, rfl⟩
      rw [hw4] at b4 r4 c4
      clear bb cr c2 c3
      by_cases hm : m = 0
      · have tm : (m == 0) = true := by simpa using hm
        clear hm
        go_wp2_with fail
        clear hw4 r2 b2 cc ff
        refine (c_pick _ _ _ _ _ (by omega) (by omega) r4).mono ?_
        clear r4
        rintro e w5 ⟨y, rfl, q, r5, c5⟩
        obtain ⟨y0, y1⟩ := q.1 (by omega)
        clear q
        have b5 := b4.chg c5 (by omega)
        have c6 := c4.trans c5
        have cc := b5.cell j (by rw [List.length_set, HY.out]; exact hlt)
        have ff := b5.free j
        obtain ⟨z, hz⟩ : ∃ z : Nat, y = z := ⟨y.toNat, by omega⟩
        have hzz : z = 0 ∨ z = 1 ∨ z = 2 ∨ z = 3 := by omega
        clear c4 c5 b4
        rcases hzz with rfl | rfl | rfl | rfl <;> subst hz <;>
        · go_wp2
          go_roundw
          case rel => exact ⟨j + 1, _, by omega, by go_num, by show _ = _; simpa using HY.out, dg_set (by rw [List.length_set, HY.out]; exact hlt) (fun k hk => HD4.out k (by omega)) (by decide +kernel), b5.set j _, (r5.up (by omega)).chg (set_chgE w5 gB j _) (by have := HGB.out; omega) (by omega), c6.setNew (p := ⟨gB, j, none⟩) (show w.heap.size ≤ gB by have := HGB.out; omega) _⟩
          case measure => simp [intOf]; omega
      · have tm : (m == 0) = false := by simpa using hm
        clear hm
        go_wp2
        go_roundw
        case rel => exact ⟨j + 1, _, by omega, by go_num, by show _ = _; rw [List.length_set]; exact HY.out, HD4.out, b4, r4.up (by omega), c4⟩
        case measure => simp [intOf]; omega
    · obtain rfl : j = wd := by omega
      have hcv := run_convert_bytes_arg wr 22 5 Tryd.underlying22 Tryd.underlying5 gB 0 j j ys HY.out (fun i hi => by
        rw [Nat.zero_add]
        exact bb.cell i (by rw [HY.out]; exact hi)) 9 Tryd.underlying9
      go_wp2
      go_ret
      exact ⟨_, rfl, dg_str HY.out HD.out, by rw [strOfNums_size, HY.out], rr.up (by omega), cr⟩
set_option maxHeartbeats 3200000 in
theorem c_l3SomeG (w : World) (B g L : Nat) (hL : L ≤ 40000) (r : Rd w B g L) :
    Calls Tryd.prog 19 #[.pointer (some ⟨g, 0, none⟩)] w (DrEngG w B g (L + 1200)) := by
  have hsz := r.lt
  have hge := r.ge
  have hs1 : (w.alloc (.cells #[.slice none 0 0] 25)).heap.size = w.heap.size + 1 := by simp
  have b1 := RetRow.e1 w (.cells #[.slice none 0 0] 25)
  have b2 := RetRow.e1 (w.alloc (.cells #[.slice none 0 0] 25)) (.cells #[.slice none 0 0] 25)
  have g0 := eng_alloc w (.slice none 0 0) 25
  have g1 := eng_alloc (w.alloc (.cells #[.slice none 0 0] 25)) (.slice none 0 0) 25
  rw [hs1] at g1 b2
  have b3 := b1.trans (b2.mono (by omega))
  replace g0 := (b2.block w.heap.size (by omega)).trans g0
  obtain ⟨wA, hwA⟩ : ∃ x, (w.alloc (.cells #[.slice none 0 0] 25)).alloc (.cells #[.slice none 0 0] 25) = x := ⟨_, rfl⟩
  rw [hwA] at b3 g0 g1
  have hsA : Hid (wA.heap.size = w.heap.size + 1 + 1) := by show _ = _; rw [← hwA]; simp
  have rA := r.below b3 hsz
  have cA : Chg g (g + 1) w wA := (Chg.refl g (g + 1) w).bel b3 (Nat.le_refl _)
  obtain ⟨gR, hgR⟩ : ∃ x, w.heap.size = x := ⟨_, rfl⟩
  obtain ⟨BB, hBB⟩ : ∃ x, wA.heap.size = x := ⟨_, rfl⟩
  have hB1 : BB = (gR + 1) + 1 := by have := hsA.out; omega
  have HGR := hid hgR
  have hsz2 : g < gR := by omega
  have hwR : w.heap.size ≤ gR := by omega
  rw [hgR] at g0 g1
  have HG0 := hid g0
  have HG1 := hid g1
  have hBA : BB ≤ wA.heap.size := by omega
  clear b1 b2 b3 r g0 g1 hs1 hBB
  have x1 := row_cell HG1.out 0
  have f1 := row_free HG1.out 0
  have HG1 := hid (row_set HG1.out 0 (.slice none 0 0))
  have HG0 := hid ((Below.heap_setCell wA ⟨gR + 1, 0, none⟩ (.slice none 0 0) gR (show gR ≠ gR + 1 by omega)).trans HG0.out)
  have cA := cA.setNew (p := ⟨gR + 1, 0, none⟩) (show w.heap.size ≤ gR + 1 by omega) (.slice none 0 0)
  have rA := rA.chg (set_chgE wA (gR + 1) 0 (.slice none 0 0)) (by omega) (by omega)
  obtain ⟨wB, hwB⟩ : ∃ x, wA.setCell ⟨gR + 1, 0, none⟩ (.slice none 0 0) = x := ⟨_, rfl⟩
  have hBw0 : BB ≤ wB.heap.size := by rw [← hwB]; simpa using hBA
  rw [hwB] at HG1 HG0 cA rA
  go_enter Tryd.func19, Tryd.ntmps19
  go_wp2_with fail
  clear hwB x1 f1
  refine (c_l1Any wB B g L (by omega) rA).mono ?_
  clear rA
  rintro e w1 ⟨wd, rfl, ⟨wd0, wd1⟩, r, c⟩
  have HA0 := hid ((c.block gR (by omega) (by omega)).trans HG0.out)
  have HA1 := hid ((c.block (gR + 1) (by omega) (by omega)).trans HG1.out)
  replace cA := cA.trans c
  have s1 := c.size
  clear c HG0 HG1
  go_wp2_with fail
  refine (c_numLit _ _ _ _ _ [3, 4, 1, 2, 5, 7] rfl (by intro x hx; simp at hx; omega) (by omega) (by simp) (by simp) _ rfl r).mono ?_
  clear r
  rintro e w2 ⟨n0, rfl, q, r, c⟩
  simp only [List.mem_cons, List.not_mem_nil, or_false] at q
  have hq : 1 ≤ n0 ∧ n0 ≤ 7 := by omega
  obtain ⟨hn1, hn7⟩ := hq
  have HB0 := hid ((c.block gR (by omega) (by omega)).trans HA0.out)
  have HB1 := hid ((c.block (gR + 1) (by omega) (by omega)).trans HA1.out)
  replace cA := cA.trans c
  have s2 := c.size
  clear c HA0 HA1 q
  obtain ⟨nn, rfl⟩ : ∃ nn : Nat, n0 = nn := ⟨n0.toNat, by omega⟩
  obtain ⟨wd, rfl⟩ : ∃ x : Nat, wd = x := ⟨wd.toNat, by omega⟩
  go_wp2
  (try clear hwA hgR)
  go_loopw [5, 6] (fun x y wr => ∃ (n : Nat) (cs : List ByteArray) (v : Value), x = .int .i64 n ∧ cs.length + n = nn ∧ Hid (wr.heap[(gR + 1)]? = some (.cells #[v] 25 (0, 0))) ∧ OwnT wr BB v cs ∧ Hid (∀ i, i < cs.length → GC wd (tC cs i)) ∧ Rd wr B g (L + 2 + 150 * cs.length) ∧ Chg g (g + 1) w wr ∧ Hid (wr.heap[gR]? = some (.cells #[.slice none 0 0] 25 (0, 0))) ∧ BB ≤ wr.heap.size) (fun x _ _ => (intOf x).toNat)
  case atStart => exact ⟨nn, [], _, rfl, by simp, HB1.out, OwnT.nil _ _, fun i hi => by simp at hi, r, cA, HB0.out, by omega⟩
  case round =>
    obtain ⟨n, cs, v, rfl, hcn, HX, ow, HS, rr, cr, HRR, hBw⟩ := hrel
    clear cA HB0 HB1 r
    by_cases hp : 0 < n
    · obtain ⟨m, rfl⟩ : ∃ m, n = m + 1 := ⟨n - 1, by omega⟩
      have hpi : (((m + 1 : Nat) : Int) > 0) := by omega
      have hmi : (((m + 1 : Nat) : Int) - 1) = (m : Int) := by omega
      have hcl : cs.length ≤ 6 := by omega
      go_wp2_with fail
      refine (c_l1SomeG _ B g _ wd (by omega) (by omega) rr).mono ?_
      clear rr
      rintro e w3 ⟨s, rfl, hdg, hsw, r3, c⟩
      have HGS := hid (gc_of hdg hsw (by omega) (by omega))
      have hs : s.size ≤ 64 := by omega
      clear hdg
      have HX3 := hid ((c.block (gR + 1) (by omega) (by omega)).trans HX.out)
      have HR3 := hid ((c.block gR (by omega) (by omega)).trans HRR.out)
      have o3 := ow.chg c (by omega)
      have c3 := cr.trans c
      have s3 := c.size
      clear c ow cr HX HRR
      go_wp2_with fail
      refine (c_pick _ _ _ _ _ (by omega) (by omega) r3).mono ?_
      clear r3
      rintro e w4 ⟨x, rfl, q, r4, c⟩
      obtain ⟨x0, x1⟩ := q.1 (by omega)
      have HX4 := hid ((c.block (gR + 1) (by omega) (by omega)).trans HX3.out)
      have HR4 := hid ((c.block gR (by omega) (by omega)).trans HR3.out)
      have o4 := o3.chg c (by omega)
      have c4 := c3.trans c
      have s4 := c.size
      clear c o3 c3 q HX3 HR3
      by_cases hx : 0 < x
      · go_wp2_with fail
        refine (c_pick _ _ _ _ _ (by omega) (by omega) r4).mono ?_
        clear r4
        rintro e w5 ⟨y, rfl, q, r5, c⟩
        obtain ⟨y0, y1⟩ := q.1 (by omega)
        have HX5 := hid ((c.block (gR + 1) (by omega) (by omega)).trans HX4.out)
        have HR5 := hid ((c.block gR (by omega) (by omega)).trans HR4.out)
        have o5 := o4.chg c (by omega)
        have c5 := c4.trans c
        have s5 := c.size
        clear c o4 c4 q HX4 HR4
        go_wp2_with fail
        refine (c_l1Show (y - 100) wd _ (by omega) (by omega) (by omega)).mono ?_
        rintro e w6 ⟨rfl, b⟩
        have HX4 := hid ((b.block (gR + 1) (by omega)).trans HX5.out)
        have HR4 := hid ((b.block gR (by omega)).trans HR5.out)
        have o4 := o5.below b (Nat.le_refl _)
        have c4 := c5.bel b (by have := c5.size; omega)
        have r4 := r5.below b (by have := r5.lt; omega)
        have s6 := b.size
        have hs4 : (shB (md (y - 100) (ten wd)) wd).size ≤ 64 := by rw [shB_size]; omega
        clear b o5 c5 r5 HX5 HR5
        have x4 := row_cell HX4.out 0
        have f4 := row_free HX4.out 0
        go_wp2_with (at_builtin; refine wpList_appT1 rfl _ _ _ rfl Tryd.underlying23 BB _ cs rfl rfl o4 (by omega) (by rw [shB_size]; unfold maxLen; omega) (by have := c4.size; omega) ?_; intro v5 w5 o5 b5; obtain ⟨g5, p5, n5, hn5, hv5⟩ := o5.form1 (by simp); subst hv5; have HN5 := hid hn5; clear hn5; have HX5 := hid ((b5.block (gR + 1) (by omega)).trans HX4.out); have HR5 := hid ((b5.block gR (by omega)).trans HR4.out); have x5 := row_cell HX5.out 0; have f5 := row_free HX5.out 0; have sW5 := b5.size)
        have r5 := r4.below b5 (by omega)
        have sB5 : BB ≤ w5.heap.size := by omega
        have c5 := c4.bel b5 (by omega)
        have HX6 := hid (row_set HX5.out 0 (.slice (some ⟨g5, 0, none⟩) n5 p5))
        have r6 := r5.chg (set_chgE w5 (gR + 1) 0 (.slice (some ⟨g5, 0, none⟩) n5 p5)) (by omega) (by omega)
        have HR6 := hid ((Below.heap_setCell w5 ⟨gR + 1, 0, none⟩ (.slice (some ⟨g5, 0, none⟩) n5 p5) gR (show gR ≠ (gR + 1) by omega)).trans HR5.out)
        have c6 := c5.setNew (p := ⟨gR + 1, 0, none⟩) (show w.heap.size ≤ (gR + 1) by omega) (.slice (some ⟨g5, 0, none⟩) n5 p5)
        have o6 := o5.chg (set_chgE w5 (gR + 1) 0 (.slice (some ⟨g5, 0, none⟩) n5 p5)) (by omega)
        have HSS := hid (show ∀ i, i < (cs ++ [(shB (md (y - 100) (ten wd)) wd)]).length → GC wd (tC (cs ++ [(shB (md (y - 100) (ten wd)) wd)]) i) from fun i hi => by
          rw [List.length_append, List.length_singleton] at hi
          by_cases e : i < cs.length
          · rw [tC_app_left e]; exact HS.out i e
          · obtain rfl : i = cs.length := by omega
            rw [tC_app_last]; exact gc_sh (by omega) (by omega))
        clear x4 f4 x5 f5 o4 o5 r5 c5 b5 r4 c4 HX4 HR4 HR5
        go_roundw
        case rel => exact ⟨m, cs ++ [(shB (md (y - 100) (ten wd)) wd)], .slice (some ⟨g5, 0, none⟩) n5 p5, by go_num, by rw [List.length_append, List.length_singleton]; omega, HX6.out, o6, HSS.out, (r6.up (by rw [List.length_append, List.length_singleton]; omega)), c6, HR6.out, by simpa using sB5⟩
        case measure => simp [intOf]
      · have hs4 : s.size ≤ 64 := hs
        have x4 := row_cell HX4.out 0
        have f4 := row_free HX4.out 0
        go_wp2_with (at_builtin; refine wpList_appT1 rfl _ _ _ rfl Tryd.underlying23 BB _ cs rfl rfl o4 (by omega) (by unfold maxLen; omega) (by have := c4.size; omega) ?_; intro v5 w5 o5 b5; obtain ⟨g5, p5, n5, hn5, hv5⟩ := o5.form1 (by simp); subst hv5; have HN5 := hid hn5; clear hn5; have HX5 := hid ((b5.block (gR + 1) (by omega)).trans HX4.out); have HR5 := hid ((b5.block gR (by omega)).trans HR4.out); have x5 := row_cell HX5.out 0; have f5 := row_free HX5.out 0; have sW5 := b5.size)
        have r5 := r4.below b5 (by omega)
        have sB5 : BB ≤ w5.heap.size := by omega
        have c5 := c4.bel b5 (by omega)
        have HX6 := hid (row_set HX5.out 0 (.slice (some ⟨g5, 0, none⟩) n5 p5))
        have r6 := r5.chg (set_chgE w5 (gR + 1) 0 (.slice (some ⟨g5, 0, none⟩) n5 p5)) (by omega) (by omega)
        have HR6 := hid ((Below.heap_setCell w5 ⟨gR + 1, 0, none⟩ (.slice (some ⟨g5, 0, none⟩) n5 p5) gR (show gR ≠ (gR + 1) by omega)).trans HR5.out)
        have c6 := c5.setNew (p := ⟨gR + 1, 0, none⟩) (show w.heap.size ≤ (gR + 1) by omega) (.slice (some ⟨g5, 0, none⟩) n5 p5)
        have o6 := o5.chg (set_chgE w5 (gR + 1) 0 (.slice (some ⟨g5, 0, none⟩) n5 p5)) (by omega)
        have HSS := hid (show ∀ i, i < (cs ++ [s]).length → GC wd (tC (cs ++ [s]) i) from fun i hi => by
          rw [List.length_append, List.length_singleton] at hi
          by_cases e : i < cs.length
          · rw [tC_app_left e]; exact HS.out i e
          · obtain rfl : i = cs.length := by omega
            rw [tC_app_last]; exact HGS.out)
        clear x4 f4 x5 f5 o4 o5 r5 c5 b5 r4 c4 HX4 HR4 HR5
        go_roundw
        case rel => exact ⟨m, cs ++ [s], .slice (some ⟨g5, 0, none⟩) n5 p5, by go_num, by rw [List.length_append, List.length_singleton]; omega, HX6.out, o6, HSS.out, (r6.up (by rw [List.length_append, List.length_singleton]; omega)), c6, HR6.out, by simpa using sB5⟩
        case measure => simp [intOf]
    · obtain rfl : n = 0 := by omega
      have hcn2 : 1 ≤ cs.length := by omega
      have hcn3 : cs.length ≤ 7 := by omega
      clear hcn
      have hr := ow.rwT (show 0 < cs.length by omega) (Nat.le_refl _)
      obtain ⟨ga, cap, hvf⟩ := hr.form
      subst hvf
      have hl := hr.lt
      have HR1 := hid hr.one
      have x4 := row_cell HX.out 0
      have z4 := row_cell HRR.out 0
      have f4 := row_free HRR.out 0
      have HF := hid (row_set HRR.out 0 (.slice (some ⟨ga, 0, none⟩) cs.length cap))
      have r6 := rr.chg (set_chgE wr gR 0 (.slice (some ⟨ga, 0, none⟩) cs.length cap)) (by have := HGR.out; omega) (by have := HGR.out; omega)
      have c6 := cr.setNew (p := ⟨gR, 0, none⟩) (show w.heap.size ≤ gR by have := HGR.out; omega) (.slice (some ⟨ga, 0, none⟩) cs.length cap)
      clear hr
      go_wp2
      (try simp only [Exit.inBlock, Exit.then])
      refine bodyPost_eng rfl rfl (by rfl) HF.out ?_
      refine ⟨ga, cap, cs, rfl, HR1.out.cong (Below.heap_setCell wr ⟨gR, 0, none⟩ _ ga (show ga ≠ gR by omega)) (Nat.le_refl _), by have := HGR.out; omega, ⟨hcn2, by omega⟩, gc_eng hcn2 hcn3 HS.out, r6.up (by omega), c6⟩
end Go.Proofs.YtkaanlldjkflaaaDoor
