/- What is proved here: contracts of SegmentOf (spec and impl). -/
import Derived.Test.YtkiebajggombiaaRun
import Derived.Test.YtkiebajggombiaaBstM
import Derived.Laws.ResultCell
import Derived.Laws.Rows
set_option linter.unusedVariables false
set_option linter.unusedSimpArgs false
namespace Go.Proofs.Ytkiebajggombiaa
open Go.RowKit

def sgOk (xs : List Int) (f c d : Int) : Bool := SM xs && (inB d 0 6 && (inB f 0 ((xs.length : Int) - 1) && (inB c 1 ((xs.length : Int) - f) && rnOk ((xs.drop f.toNat).take c.toNat) d)))
def sgC (xs : List Int) (f c d : Int) : Int := if sgOk xs f c d then c else 0
def sgP (xs : List Int) (f c d : Int) : List Int := if sgOk xs f c d then rnL ((xs.drop f.toNat).take c.toNat) d else []
/-- A segment and whether there is one. -/
def RetSeg (w : World) (n : Int) (ps : List Int) (ok : Bool) : Ending → World → Prop := fun e w' =>
  ∃ v, e = .returned (.tuple #[.agg #[.int .i64 n, v], .bool ok]) ∧ Rw w' w.heap.size w'.heap.size v ps ∧ Below w.heap.size w w'
theorem sg_no {xs : List Int} {f c d : Int} (h : sgOk xs f c d = false) : sgC xs f c d = 0 ∧ sgP xs f c d = [] := by simp [sgC, sgP, h]
theorem sg_yes {xs : List Int} {f c d : Int} (h : sgOk xs f c d = true) : sgC xs f c d = c ∧ sgP xs f c d = rnL ((xs.drop f.toNat).take c.toNat) d := by simp [sgC, sgP, h]
theorem Try.infoSeg : (Try.prog.info? 36).map (·.size) = some 2 := by kernel_rfl
theorem bodyPost_seg {fn : Func} {p u : Tmp} (h : fn.results = #[.cell p 36, .tmp u]) {a : Act} {w' : World} {g : Nat} {c v ok : Value} {Q : Ending → World → Prop}
    (hd : a.defers = []) (hp : a.tmps.getD p undef = .pointer (some ⟨g, 0, none⟩)) (hu : a.tmps.getD u undef = ok) (hg : w'.heap[g]? = some (.cells #[c, v] 36 (0, 0)))
    (hq : Q (.returned (.tuple #[.agg #[c, v], ok])) w') : bodyPost Try.prog fn Q .ret a w' := by
  refine bodyPost_ret (v := .tuple #[.agg #[c, v], ok]) ?_ hd hq
  rw [results_cell_tmp h, hp, hu]
  simp [asAddr, Result.andThen, run_loadVar_row (P := Try.prog) w' g 36 36 #[c, v] (0, 0) _ hg Try.underlying36 rfl Try.infoSeg]
theorem seg_cells {w : World} {g : Nat} {c v : Value} {t : TypeId} (h : w.heap[g]? = some (.cells #[c, v] t (0, 0))) (x : Value) :
    w.cell? ⟨g, 0, none⟩ = some c ∧ w.cell? ⟨g, 1, none⟩ = some v ∧ w.frozen? ⟨g, 0, none⟩ = false ∧ w.frozen? ⟨g, 1, none⟩ = false ∧
    (w.setCell ⟨g, 0, none⟩ x).cell? ⟨g, 1, none⟩ = some v ∧ (w.setCell ⟨g, 0, none⟩ x).frozen? ⟨g, 1, none⟩ = false :=
  ⟨by rw [row_cell h]; rfl, by rw [row_cell h]; rfl, row_free h 0, row_free h 1, by rw [row_cell (row_set h 0 x)]; rfl, row_free (row_set h 0 x) 1⟩
theorem seg_chg (w : World) (g o : Nat) (u : Value) : Chg g (g + 1) w (w.setCell ⟨g, o, none⟩ u) := (Chg.refl _ _ _).setCell (p := ⟨g, o, none⟩) (Nat.le_refl _) (Nat.lt_succ_self _) u
theorem seg_set {w : World} {g : Nat} {c v : Value} {t : TypeId} (h : w.heap[g]? = some (.cells #[c, v] t (0, 0))) (x y : Value) :
    ((w.setCell ⟨g, 0, none⟩ x).setCell ⟨g, 1, none⟩ y).heap[g]? = some (.cells #[x, y] t (0, 0)) := by
  rw [row_set (row_set h 0 x) 1 y]; rfl
set_option maxHeartbeats 800000 in
theorem c_iSegmentOf (w : World) (v : Value) (xs : List Int) (hv : IsI w w.heap.size v xs) (f c d : Int) :
    Calls Try.prog 18 #[v, .int .i64 f, .int .i64 c, .int .i64 d] w (RetSeg w (sgC xs f c d) (sgP xs f c d) (sgOk xs f c d)) := by
  have hv0 := hv
  have hz : Below w.heap.size w (w.alloc (.cells #[.int .i64 0, .slice none 0 0] 36)) := RetRow.e1 _ _
  have hg0 : (w.alloc (.cells #[.int .i64 0, .slice none 0 0] 36)).heap[w.heap.size]? = some (.cells #[.int .i64 0, .slice none 0 0] 36 (0, 0)) := heap_alloc_new w _
  have hva := hv0.alloc (.cells #[.int .i64 0, .slice none 0 0] 36) (Nat.le_refl _)
  have HZ := hid hz
  have HG := hid hg0
  clear hz hg0
  by_cases hS : SM xs = true
  · by_cases hd : inB d 0 6 = true
    · by_cases hf : inB f 0 ((xs.length : Int) - 1) = true
      · by_cases hc : inB c 1 ((xs.length : Int) - f) = true
        · obtain ⟨f0, f1⟩ := inB_iff.1 hf
          obtain ⟨c0, c1⟩ := inB_iff.1 hc
          have HOK : Hid (sgOk xs f c d = rnOk ((xs.drop f.toNat).take c.toNat) d) := by show _ = _; simp only [sgOk, hS, hd, hf, hc, Bool.true_and]
          obtain ⟨fn, rfl⟩ : ∃ n : Nat, f = n := ⟨f.toNat, by omega⟩
          obtain ⟨cn, rfl⟩ : ∃ n : Nat, c = n := ⟨c.toNat, by omega⟩
          have h60 := (TB_iff.1 (SM_TB hS)).2.1
          have HS := hid hS
          obtain ⟨a, cap, rfl, hm, -, hcl⟩ := hv
          unfold maxLen at hm
          obtain ⟨b, off, rfl, hb, -⟩ := hcl 0 (by omega)
          rw [show ((fn : Int)).toNat = fn by omega, show ((cn : Int)).toNat = cn by omega] at HOK
          have k1 : (fn : Int) < xs.length := by omega
          have k2 : fn < xs.length := by omega
          have k3 : ¬ (fn : Int) < 0 := by omega
          have k4 : ¬ (cn : Int) < 1 := by omega
          have k5 : ¬ cn = 0 := by omega
          have k6 : (cn : Int) ≤ (xs.length : Int) - fn := by omega
          have k7 : (fn : Int) + cn ≤ cap := by omega
          have k8 : (fn : Int) < cap := by omega
          have k9 : ¬ cap = fn := by omega
          have hsub := (((hva.sub (lo := fn) (m := cn) (by omega)))).up (by simp : w.heap.size ≤ (w.alloc (.cells #[.int .i64 0, .slice none 0 0] 36)).heap.size)
          have k10 : ¬ (xs.length : Int) ≤ fn := by omega
          have k11 : ¬ xs.length ≤ fn := by omega
          have k12 : ¬ (xs.length : Int) - fn < cn := by omega
          clear hcl hS hf hc f0 f1 c0 c1
          by_cases hr : rnOk ((xs.drop fn).take cn) d = true
          · have HE := hid (sg_yes (HOK.out.trans hr))
            rw [HE.out.1, HE.out.2, HOK.out, hr]
            go_enter Try.func18, Try.ntmps18
            go_wp2_with fail
            refine (c_smallTable _ xs _ _ hva).mono ?_
            rw [HS.out]
            rintro e wx ⟨rfl, rfl⟩
            go_wp2_with fail
            refine (c_degreeValid _ _).mono ?_
            rw [hd]
            rintro e wx ⟨rfl, rfl⟩
            go_wp2_with fail
            refine (c_runOf _ _ _ hsub d).mono ?_
            rw [hr]
            rintro e w1 ⟨v1, rfl, r1, b1⟩
            clear hr
            obtain ⟨a1, cap1, hv1⟩ : ∃ a cap, v1 = .slice a (rnL ((xs.drop fn).take cn) d).length cap := ⟨_, _, r1.isI.choose_spec.choose_spec.1⟩
            subst hv1
            have hg1 := (b1.block w.heap.size (by simp)).trans HG.out
            obtain ⟨g0, g1, g2, g3, g4, g5⟩ := seg_cells hg1 (.int .i64 cn)
            have HS2 := hid (seg_set hg1 (.int .i64 cn) (.slice a1 (rnL ((xs.drop fn).take cn) d).length cap1))
            clear hg1
            go_wp2
            (try simp only [Exit.inBlock, Exit.then])
            refine bodyPost_seg rfl rfl (by rfl) (by rfl) HS2.out ?_
            exact ⟨_, rfl, ((((r1.keep (seg_chg _ w.heap.size 0 _) (.inr (by simp))).keep (seg_chg _ w.heap.size 1 _) (.inr (by simp))).down (by simp)).up (by simp)), (HZ.out.trans (b1.mono (by simp))).setCell (p := ⟨w.heap.size, 0, none⟩) (Nat.le_refl _) _ |>.setCell (p := ⟨w.heap.size, 1, none⟩) (Nat.le_refl _) _⟩
          · have hr' : rnOk ((xs.drop fn).take cn) d = false := by simpa using hr
            have HOK2 := hid (HOK.out.trans hr')
            have HE := hid (sg_no HOK2.out)
            rw [HE.out.1, HE.out.2, HOK2.out]
            go_enter Try.func18, Try.ntmps18
            go_wp2_with fail
            refine (c_smallTable _ xs _ _ hva).mono ?_
            rw [HS.out]
            rintro e wx ⟨rfl, rfl⟩
            go_wp2_with fail
            refine (c_degreeValid _ _).mono ?_
            rw [hd]
            rintro e wx ⟨rfl, rfl⟩
            go_wp2_with fail
            refine (c_runOf _ _ _ hsub d).mono ?_
            rw [hr']
            rintro e w1 ⟨v1, rfl, r1, b1⟩
            clear hr hr'
            have hg1 := (b1.block w.heap.size (by simp)).trans HG.out
            obtain ⟨g0, g1, g2, g3, g4, g5⟩ := seg_cells hg1 (.int .i64 0)
            have HS2 := hid (seg_set hg1 (.int .i64 0) (.slice none 0 0))
            clear hg1
            go_wp2
            (try simp only [Exit.inBlock, Exit.then])
            refine bodyPost_seg rfl rfl (by rfl) (by rfl) HS2.out ?_
            exact ⟨_, rfl, Rw.nil _ _ _, (HZ.out.trans (b1.mono (by simp))).setCell (p := ⟨w.heap.size, 0, none⟩) (Nat.le_refl _) _ |>.setCell (p := ⟨w.heap.size, 1, none⟩) (Nat.le_refl _) _⟩
        · have hc' : inB c 1 ((xs.length : Int) - f) = false := by simpa using hc
          have hok : sgOk xs f c d = false := by simp [sgOk, hc']
          have HE := hid (sg_no hok)
          rw [HE.out.1, HE.out.2, hok]
          obtain ⟨f0, f1⟩ := inB_iff.1 hf
          obtain ⟨fn, rfl⟩ : ∃ n : Nat, f = n := ⟨f.toNat, by omega⟩
          have hq : c < 1 ∨ (xs.length : Int) - fn < c := Classical.byContradiction (fun h : ¬ (c < 1 ∨ (xs.length : Int) - fn < c) => by rw [inB_yes (by omega) (by omega)] at hc'; cases hc')
          have hl60 := (TB_iff.1 (SM_TB hS)).2.1
          have q0 : IntKind.i64.wrap ((xs.length : Int) - fn) = (xs.length : Int) - fn := IntWalk.i64_in _ (by omega)
          have HS := hid hS
          obtain ⟨a, cap, rfl, -, -, -⟩ := hv
          have k1 : ¬ xs.length ≤ fn := by omega
          have k2 : ¬ (fn : Int) < 0 := by omega
          have k3 : ¬ (xs.length : Int) ≤ fn := by omega
          clear hf hc hc' hok hS
          rcases (by omega : c < 1 ∨ (¬ c < 1 ∧ (xs.length : Int) - fn < c)) with h | ⟨h, h2⟩
          all_goals
            clear hq
            go_enter Try.func18, Try.ntmps18
            go_wp2_with fail
            refine (c_smallTable _ xs _ _ hva).mono ?_
            rw [HS.out]
            rintro e wx ⟨rfl, rfl⟩
            go_wp2_with fail
            refine (c_degreeValid _ _).mono ?_
            rw [hd]
            rintro e wx ⟨rfl, rfl⟩
            go_wp2
            (try simp only [Exit.inBlock, Exit.then])
            refine bodyPost_seg rfl rfl (by rfl) (by rfl) HG.out ?_
            exact ⟨_, rfl, Rw.nil _ _ _, HZ.out⟩
      · have hf' : inB f 0 ((xs.length : Int) - 1) = false := by simpa using hf
        have hok : sgOk xs f c d = false := by simp [sgOk, hf']
        have HE := hid (sg_no hok)
        rw [HE.out.1, HE.out.2, hok]
        have hq : f < 0 ∨ (xs.length : Int) ≤ f := Classical.byContradiction (fun h : ¬ (f < 0 ∨ (xs.length : Int) ≤ f) => by rw [inB_yes (by omega) (by omega)] at hf'; cases hf')
        have HS := hid hS
        obtain ⟨a, cap, rfl, -, -, -⟩ := hv
        clear hf hf' hok hS
        rcases (by omega : f < 0 ∨ (¬ f < 0 ∧ (xs.length : Int) ≤ f)) with h | ⟨h, h2⟩
        all_goals
          clear hq
          go_enter Try.func18, Try.ntmps18
          go_wp2_with fail
          refine (c_smallTable _ xs _ _ hva).mono ?_
          rw [HS.out]
          rintro e wx ⟨rfl, rfl⟩
          go_wp2_with fail
          refine (c_degreeValid _ _).mono ?_
          rw [hd]
          rintro e wx ⟨rfl, rfl⟩
          go_wp2
          (try simp only [Exit.inBlock, Exit.then])
          refine bodyPost_seg rfl rfl (by rfl) (by rfl) HG.out ?_
          exact ⟨_, rfl, Rw.nil _ _ _, HZ.out⟩
    · have hd' : inB d 0 6 = false := by simpa using hd
      have hok : sgOk xs f c d = false := by simp [sgOk, hd']
      have HE := hid (sg_no hok)
      rw [HE.out.1, HE.out.2, hok]
      have HS := hid hS
      clear hd hok hS
      go_enter Try.func18, Try.ntmps18
      go_wp2_with fail
      refine (c_smallTable _ xs _ _ hva).mono ?_
      rw [HS.out]
      rintro e wx ⟨rfl, rfl⟩
      go_wp2_with fail
      refine (c_degreeValid _ _).mono ?_
      rw [hd']
      rintro e wx ⟨rfl, rfl⟩
      go_wp2
      (try simp only [Exit.inBlock, Exit.then])
      refine bodyPost_seg rfl rfl (by rfl) (by rfl) HG.out ?_
      exact ⟨_, rfl, Rw.nil _ _ _, HZ.out⟩
  · have hS' : SM xs = false := by simpa using hS
    have hok : sgOk xs f c d = false := by simp [sgOk, hS']
    have HE := hid (sg_no hok)
    rw [HE.out.1, HE.out.2, hok]
    clear hS hok
    go_enter Try.func18, Try.ntmps18
    go_wp2_with fail
    refine (c_smallTable _ xs _ _ hva).mono ?_
    rw [hS']
    rintro e wx ⟨rfl, rfl⟩
    go_wp2
    (try simp only [Exit.inBlock, Exit.then])
    refine bodyPost_seg rfl rfl (by rfl) (by rfl) HG.out ?_
    exact ⟨_, rfl, Rw.nil _ _ _, HZ.out⟩
set_option maxHeartbeats 800000 in
theorem c_sSegmentOf (w : World) (v : Value) (xs : List Int) (hv : IsI w w.heap.size v xs) (f c d : Int) :
    Calls Try.prog 19 #[v, .int .i64 f, .int .i64 c, .int .i64 d] w (RetSeg w (sgC xs f c d) (sgP xs f c d) (sgOk xs f c d)) := by
  have hv0 := hv
  have hz : Below w.heap.size w (w.alloc (.cells #[.int .i64 0, .slice none 0 0] 36)) := RetRow.e1 _ _
  have hg0 : (w.alloc (.cells #[.int .i64 0, .slice none 0 0] 36)).heap[w.heap.size]? = some (.cells #[.int .i64 0, .slice none 0 0] 36 (0, 0)) := heap_alloc_new w _
  have hva := hv0.alloc (.cells #[.int .i64 0, .slice none 0 0] 36) (Nat.le_refl _)
  have HZ := hid hz
  have HG := hid hg0
  clear hz hg0
  by_cases hS : SM xs = true
  · by_cases hd : inB d 0 6 = true
    · by_cases hf : inB f 0 ((xs.length : Int) - 1) = true
      · by_cases hc : inB c 1 ((xs.length : Int) - f) = true
        · obtain ⟨f0, f1⟩ := inB_iff.1 hf
          obtain ⟨c0, c1⟩ := inB_iff.1 hc
          have HOK : Hid (sgOk xs f c d = rnOk ((xs.drop f.toNat).take c.toNat) d) := by show _ = _; simp only [sgOk, hS, hd, hf, hc, Bool.true_and]
          obtain ⟨fn, rfl⟩ : ∃ n : Nat, f = n := ⟨f.toNat, by omega⟩
          obtain ⟨cn, rfl⟩ : ∃ n : Nat, c = n := ⟨c.toNat, by omega⟩
          have h60 := (TB_iff.1 (SM_TB hS)).2.1
          have HS := hid hS
          obtain ⟨a, cap, rfl, hm, -, hcl⟩ := hv
          unfold maxLen at hm
          obtain ⟨b, off, rfl, hb, -⟩ := hcl 0 (by omega)
          rw [show ((fn : Int)).toNat = fn by omega, show ((cn : Int)).toNat = cn by omega] at HOK
          have k1 : (fn : Int) < xs.length := by omega
          have k2 : fn < xs.length := by omega
          have k3 : ¬ (fn : Int) < 0 := by omega
          have k4 : ¬ (cn : Int) < 1 := by omega
          have k5 : ¬ cn = 0 := by omega
          have k6 : (cn : Int) ≤ (xs.length : Int) - fn := by omega
          have k7 : (fn : Int) + cn ≤ cap := by omega
          have k8 : (fn : Int) < cap := by omega
          have k9 : ¬ cap = fn := by omega
          have hsub := (((hva.sub (lo := fn) (m := cn) (by omega)))).up (by simp : w.heap.size ≤ (w.alloc (.cells #[.int .i64 0, .slice none 0 0] 36)).heap.size)
          have k10 : ¬ (xs.length : Int) ≤ fn := by omega
          have k11 : ¬ xs.length ≤ fn := by omega
          have k12 : ¬ (xs.length : Int) - fn < cn := by omega
          have HF := hid hf
          have HC := hid hc
          clear hcl hS hf hc f0 f1 c0 c1
          by_cases hr : rnOk ((xs.drop fn).take cn) d = true
          · have HE := hid (sg_yes (HOK.out.trans hr))
            rw [HE.out.1, HE.out.2, HOK.out, hr]
            go_enter Try.func19, Try.ntmps19
            go_wp2_with fail
            refine (c_l5Small _ xs _ _ hva).mono ?_
            rw [HS.out]
            rintro e wx ⟨rfl, rfl⟩
            go_wp2_with fail
            refine (c_l4Degree _ _).mono ?_
            rw [hd]
            rintro e wx ⟨rfl, rfl⟩
            go_wp2_with fail
            refine (c_l1In _ _ _ _).mono ?_
            rw [HF.out]
            rintro e wx ⟨rfl, rfl⟩
            go_wp2_with fail
            refine (c_l1In _ _ _ _).mono ?_
            rw [HC.out]
            rintro e wx ⟨rfl, rfl⟩
            go_wp2_with fail
            refine (c_l5Run _ _ _ hsub d).mono ?_
            rw [hr]
            rintro e w1 ⟨v1, rfl, r1, b1⟩
            clear hr
            obtain ⟨a1, cap1, hv1⟩ : ∃ a cap, v1 = .slice a (rnL ((xs.drop fn).take cn) d).length cap := ⟨_, _, r1.isI.choose_spec.choose_spec.1⟩
            subst hv1
            have hg1 := (b1.block w.heap.size (by simp)).trans HG.out
            obtain ⟨g0, g1, g2, g3, g4, g5⟩ := seg_cells hg1 (.int .i64 cn)
            have HS2 := hid (seg_set hg1 (.int .i64 cn) (.slice a1 (rnL ((xs.drop fn).take cn) d).length cap1))
            clear hg1
            go_wp2
            (try simp only [Exit.inBlock, Exit.then])
            refine bodyPost_seg rfl rfl (by rfl) (by rfl) HS2.out ?_
            exact ⟨_, rfl, ((((r1.keep (seg_chg _ w.heap.size 0 _) (.inr (by simp))).keep (seg_chg _ w.heap.size 1 _) (.inr (by simp))).down (by simp)).up (by simp)), (HZ.out.trans (b1.mono (by simp))).setCell (p := ⟨w.heap.size, 0, none⟩) (Nat.le_refl _) _ |>.setCell (p := ⟨w.heap.size, 1, none⟩) (Nat.le_refl _) _⟩
          · have hr' : rnOk ((xs.drop fn).take cn) d = false := by simpa using hr
            have HOK2 := hid (HOK.out.trans hr')
            have HE := hid (sg_no HOK2.out)
            rw [HE.out.1, HE.out.2, HOK2.out]
            go_enter Try.func19, Try.ntmps19
            go_wp2_with fail
            refine (c_l5Small _ xs _ _ hva).mono ?_
            rw [HS.out]
            rintro e wx ⟨rfl, rfl⟩
            go_wp2_with fail
            refine (c_l4Degree _ _).mono ?_
            rw [hd]
            rintro e wx ⟨rfl, rfl⟩
            go_wp2_with fail
            refine (c_l1In _ _ _ _).mono ?_
            rw [HF.out]
            rintro e wx ⟨rfl, rfl⟩
            go_wp2_with fail
            refine (c_l1In _ _ _ _).mono ?_
            rw [HC.out]
            rintro e wx ⟨rfl, rfl⟩
            go_wp2_with fail
            refine (c_l5Run _ _ _ hsub d).mono ?_
            rw [hr']
            rintro e w1 ⟨v1, rfl, r1, b1⟩
            clear hr hr'
            have hg1 := (b1.block w.heap.size (by simp)).trans HG.out
            obtain ⟨g0, g1, g2, g3, g4, g5⟩ := seg_cells hg1 (.int .i64 0)
            have HS2 := hid (seg_set hg1 (.int .i64 0) (.slice none 0 0))
            clear hg1
            go_wp2
            (try simp only [Exit.inBlock, Exit.then])
            refine bodyPost_seg rfl rfl (by rfl) (by rfl) HS2.out ?_
            exact ⟨_, rfl, Rw.nil _ _ _, (HZ.out.trans (b1.mono (by simp))).setCell (p := ⟨w.heap.size, 0, none⟩) (Nat.le_refl _) _ |>.setCell (p := ⟨w.heap.size, 1, none⟩) (Nat.le_refl _) _⟩
        · have hc' : inB c 1 ((xs.length : Int) - f) = false := by simpa using hc
          have hok : sgOk xs f c d = false := by simp [sgOk, hc']
          have HE := hid (sg_no hok)
          rw [HE.out.1, HE.out.2, hok]
          obtain ⟨f0, f1⟩ := inB_iff.1 hf
          have hl60 := (TB_iff.1 (SM_TB hS)).2.1
          have q0 : IntKind.i64.wrap ((xs.length : Int) - f) = (xs.length : Int) - f := IntWalk.i64_in _ (by omega)
          have HS := hid hS
          obtain ⟨a, cap, rfl, -, -, -⟩ := hv
          have HF := hid hf
          have HC := hid hc'
          clear hf hc hc' hok hS
          go_enter Try.func19, Try.ntmps19
          go_wp2_with fail
          refine (c_l5Small _ xs _ _ hva).mono ?_
          rw [HS.out]
          rintro e wx ⟨rfl, rfl⟩
          go_wp2_with fail
          refine (c_l4Degree _ _).mono ?_
          rw [hd]
          rintro e wx ⟨rfl, rfl⟩
          go_wp2_with fail
          refine (c_l1In _ _ _ _).mono ?_
          rw [HF.out]
          rintro e wx ⟨rfl, rfl⟩
          go_wp2_with fail
          refine (c_l1In _ _ _ _).mono ?_
          rw [HC.out]
          rintro e wx ⟨rfl, rfl⟩
          go_wp2
          (try simp only [Exit.inBlock, Exit.then])
          refine bodyPost_seg rfl rfl (by rfl) (by rfl) HG.out ?_
          exact ⟨_, rfl, Rw.nil _ _ _, HZ.out⟩
      · have hf' : inB f 0 ((xs.length : Int) - 1) = false := by simpa using hf
        have hok : sgOk xs f c d = false := by simp [sgOk, hf']
        have HE := hid (sg_no hok)
        rw [HE.out.1, HE.out.2, hok]
        have hl60 := (TB_iff.1 (SM_TB hS)).2.1
        have HS := hid hS
        obtain ⟨a, cap, rfl, -, -, -⟩ := hv
        have HF := hid hf'
        clear hf hf' hok hS
        go_enter Try.func19, Try.ntmps19
        go_wp2_with fail
        refine (c_l5Small _ xs _ _ hva).mono ?_
        rw [HS.out]
        rintro e wx ⟨rfl, rfl⟩
        go_wp2_with fail
        refine (c_l4Degree _ _).mono ?_
        rw [hd]
        rintro e wx ⟨rfl, rfl⟩
        go_wp2_with fail
        refine (c_l1In _ _ _ _).mono ?_
        rw [HF.out]
        rintro e wx ⟨rfl, rfl⟩
        go_wp2
        (try simp only [Exit.inBlock, Exit.then])
        refine bodyPost_seg rfl rfl (by rfl) (by rfl) HG.out ?_
        exact ⟨_, rfl, Rw.nil _ _ _, HZ.out⟩
    · have hd' : inB d 0 6 = false := by simpa using hd
      have hok : sgOk xs f c d = false := by simp [sgOk, hd']
      have HE := hid (sg_no hok)
      rw [HE.out.1, HE.out.2, hok]
      have HS := hid hS
      clear hd hok hS
      go_enter Try.func19, Try.ntmps19
      go_wp2_with fail
      refine (c_l5Small _ xs _ _ hva).mono ?_
      rw [HS.out]
      rintro e wx ⟨rfl, rfl⟩
      go_wp2_with fail
      refine (c_l4Degree _ _).mono ?_
      rw [hd']
      rintro e wx ⟨rfl, rfl⟩
      go_wp2
      (try simp only [Exit.inBlock, Exit.then])
      refine bodyPost_seg rfl rfl (by rfl) (by rfl) HG.out ?_
      exact ⟨_, rfl, Rw.nil _ _ _, HZ.out⟩
  · have hS' : SM xs = false := by simpa using hS
    have hok : sgOk xs f c d = false := by simp [sgOk, hS']
    have HE := hid (sg_no hok)
    rw [HE.out.1, HE.out.2, hok]
    clear hS hok
    go_enter Try.func19, Try.ntmps19
    go_wp2_with fail
    refine (c_l5Small _ xs _ _ hva).mono ?_
    rw [hS']
    rintro e wx ⟨rfl, rfl⟩
    go_wp2
    (try simp only [Exit.inBlock, Exit.then])
    refine bodyPost_seg rfl rfl (by rfl) (by rfl) HG.out ?_
    exact ⟨_, rfl, Rw.nil _ _ _, HZ.out⟩
end Go.Proofs.Ytkiebajggombiaa
