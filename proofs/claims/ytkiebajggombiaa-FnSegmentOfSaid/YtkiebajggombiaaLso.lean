/- What is proved here: contracts of EvalPoly, deAt and DrawSegmentOf, and the walk of laws.FnSegmentOf. -/
import Derived.Test.YtkiebajggombiaaSgM
import Derived.Test.YtkiebajggombiaaSegS
import Derived.Test.YtkiebajggombiaaLrn
import Derived.Test.YtkiebajggombiaaDraw7
import Derived.Test.YtkiebajggombiaaPlnQ
import Derived.Test.YtkiebajggombiaaPlnL
set_option linter.unusedVariables false
set_option linter.unusedSimpArgs false
namespace Go.Proofs.Ytkiebajggombiaa
open Go.RowKit

theorem c_EvalPolyY (v : Value) (p : List Int) (n : Int) (B : Nat) (w : World) (hv : IsI w B v p) (hP : PV p = true) (hn : -200 ≤ n ∧ n ≤ 200) :
    Calls Try.prog 61 #[v, .int .i64 n] w fun e w' => e = .returned (.tuple #[.int .i64 (evF p n), .bool true]) ∧ w = w' := by
  have hl := (PV_iff.1 hP).2.1
  have hin : inB n (-200) 200 = true := inB_yes hn.1 hn.2
  go_enter Try.func61, Try.ntmps61
  go_wp2_with fail
  refine (c_iPolyValid _ p _ _ hv).mono ?_
  rw [hP]
  rintro e wx ⟨rfl, rfl⟩
  go_wp2_with fail
  refine (c_within _ _ _ (by omega) (by omega)).mono ?_
  rw [hin]
  rintro e wx ⟨rfl, rfl⟩
  go_wp2_with fail
  refine (c_valueAt _ p _ _ _ hv (PV_Bd hP) ⟨by omega, by omega⟩ hl).mono ?_
  rintro e wx ⟨rfl, rfl⟩
  go_wp2
  go_ret2
  exact ⟨rfl, rfl⟩
theorem c_deAt (v : Value) (p : List Int) (n : Int) (B : Nat) (w : World) (hv : IsI w B v p) (hP : PV p = true) (hn : -200 ≤ n ∧ n ≤ 200) :
    Calls Try.prog 21 #[v, .int .i64 n] w fun e w' => e = .returned (.int .i64 (evF p n)) ∧ w = w' := by
  go_enter Try.func21, Try.ntmps21
  go_wp2_with fail
  refine (c_EvalPolyY _ p n _ _ hv hP hn).mono ?_
  rintro e wx ⟨rfl, rfl⟩
  go_wp2
  go_ret
  exact ⟨rfl, rfl⟩
theorem lrF_bd (xs : List Int) (f d : Int) : -1 ≤ lrF xs f d ∧ lrF xs f d ≤ 60 := by
  by_cases h : (SM xs && (inB d 0 6 && inB f 0 xs.length)) = true
  · have h2 := h
    simp only [Bool.and_eq_true, inB_iff] at h2
    obtain ⟨hS, hd, hf⟩ := h2
    have hl := (TB_iff.1 (SM_TB hS)).2.1
    unfold lrF
    rw [if_pos h]
    have key : ∀ n, lgD (xs.drop f.toNat) d n ≤ n := by
      intro n
      induction n with
      | zero => exact Nat.le_refl _
      | succ n ih => rw [lgD]; split <;> omega
    have := key (xs.length - f.toNat)
    omega
  · unfold lrF; rw [if_neg h]; omega
set_option maxRecDepth 100000 in
set_option maxHeartbeats 800000 in
theorem c_DrawLongestRunW (w : World) (v : Value) (k : Nat) (hv : IsBy w w.heap.size v k) :
    Calls Try.prog 55 #[v] w (fun e w' => ∃ (g off cap : Nat) (xs : List Int) (n m : Int), e = .returned (.tuple #[.slice (some ⟨g, off, none⟩) xs.length cap, .int .i64 n, .int .i64 m]) ∧ w.heap.size ≤ g ∧ Wc w' g off cap xs ∧ Below w.heap.size w w') := by
  go_enter Try.func55, Try.ntmps55
  go_wp2_with fail
  refine (c_l9Open _ _ _ hv).mono ?_
  rintro e w0 ⟨rfl, r, b, sz⟩
  clear hv
  go_wp2_with fail
  refine (c_l5Some _ _ _ _ (by omega) r).mono ?_
  clear r
  rintro e w1 ⟨g, off, cap, xs, d, rfl, ⟨d0, d1⟩, hg, hne, hw, r, bb⟩
  have s1 := bb.size
  replace b := b.trans bb
  obtain ⟨hcap, hcm⟩ := hw.len
  unfold maxLen at hcm
  clear bb
  have hgl := hw.lt
  obtain ⟨hg, hxl⟩ := hg
  go_wp2_with fail
  refine (c_pick _ _ _ _ _ (by omega) (by omega) r).mono ?_
  clear r
  rintro e w2 ⟨p, rfl, pq, r, c⟩
  have s2 := c.size
  obtain ⟨p0, p1⟩ := pq.1 (by omega)
  clear pq
  replace hw := hw.chg c (by omega)
  replace b := b.trans (c.below (by omega) (by omega))
  clear c
  go_wp2_with fail
  refine (c_pick _ _ _ _ _ (by omega) (by omega) r).mono ?_
  clear r
  rintro e w3 ⟨x, rfl, xq, r, c⟩
  have s3 := c.size
  obtain ⟨x0, x1⟩ := xq.1 (by omega)
  clear xq
  replace hw := hw.chg c (by omega)
  replace b := b.trans (c.below (by omega) (by omega))
  clear c
  by_cases hx : x = 0
  · subst hx
    go_wp2_with fail
    refine (c_numLit _ _ _ _ _ [(-1), (xs.length : Int) + 1, 9223372036854775807] rfl (by intro x hx; simp at hx; omega) (by omega) (by simp) (by simp) _ rfl r).mono ?_
    clear r
    rintro e w4 ⟨y, rfl, yq, r, c⟩
    have s4 := c.size
    simp only [List.mem_cons, List.not_mem_nil, or_false] at yq
    replace hw := hw.chg c (by omega)
    replace b := b.trans (c.below (by omega) (by omega))
    clear c
    go_wp2
    go_ret3
    exact ⟨g, off, cap, xs, _, _, rfl, by omega, hw, b⟩
  · have hx' : (x == 0) = false := by simpa using hx
    clear hx
    go_wp2
    go_ret3
    exact ⟨g, off, cap, xs, _, _, rfl, by omega, hw, b⟩
/-- A draw of a table and three numbers. -/
def TabI3S (w : World) (e : Ending) (w' : World) : Prop := ∃ (v : Value) (xs : List Int) (f c d : Int), e = .returned (.tuple #[v, .int .i64 f, .int .i64 c, .int .i64 d]) ∧ IsI w' w'.heap.size v xs ∧ Below w.heap.size w w'
set_option maxRecDepth 100000 in
set_option maxHeartbeats 800000 in
theorem c_DrawSegmentOf (w : World) (v : Value) (k : Nat) (hv : IsBy w w.heap.size v k) :
    Calls Try.prog 17 #[v] w (TabI3S w) := by
  have hv0 := hv
  go_enter Try.func17, Try.ntmps17
  go_wp2_with fail
  refine (c_l9Open _ _ _ hv).mono ?_
  rintro e w0 ⟨rfl, r, b, sz⟩
  have s0 := b.size
  have hv1 : IsBy w0 w0.heap.size v k := by
    obtain ⟨a, cap, rfl, hm, hc⟩ := hv0.below b (Nat.le_refl _)
    exact ⟨a, cap, rfl, hm, fun i hi => by obtain ⟨b, off, h1, h2, h3⟩ := hc i hi; exact ⟨b, off, h1, by omega, h3⟩⟩
  clear hv hv0
  go_wp2_with fail
  refine (c_DrawLongestRunW _ _ _ hv1).mono ?_
  rintro e w1 ⟨g, off, cap, xs, f, d, rfl, hg, hw, c⟩
  have s1 := c.size
  have hgl := hw.lt
  replace r := r.below c (by omega)
  replace b := b.trans (c.mono (by omega))
  clear hv1 c
  obtain ⟨hcap, hcm⟩ := hw.len
  unfold maxLen at hcm
  obtain ⟨n0, n1⟩ := lrF_bd xs f d
  go_wp2_with fail
  refine (c_sLongestRun _ _ xs (hw.isI hw.lt) f d).mono ?_
  rintro e w2 ⟨rfl, c⟩
  have s2 := c.size
  replace hw := hw.below c (by omega)
  replace b := b.trans (c.mono (by omega))
  replace r := r.below c (by omega)
  clear c
  generalize lrF xs f d = N at *
  go_wp2_with fail
  refine (c_pick _ _ _ _ _ (by omega) (by omega) r).mono ?_
  clear r
  rintro e w3 ⟨p, rfl, pq, r, c⟩
  have s3 := c.size
  obtain ⟨p0, p1⟩ := pq.1 (by omega)
  clear pq
  replace hw := hw.chg c (by omega)
  replace b := b.trans (c.below (by omega) (by omega))
  clear c
  rcases Int.lt_trichotomy (N - p) 0 with hz | hz | hz
  all_goals
    go_wp2_with fail
    refine (c_pick _ _ _ _ _ (by omega) (by omega) r).mono ?_
    clear r
    rintro e w4 ⟨q, rfl, qq, r, c⟩
    have s4 := c.size
    obtain ⟨q0, q1⟩ := qq.1 (by omega)
    clear qq
    replace hw := hw.chg c (by omega)
    replace b := b.trans (c.below (by omega) (by omega))
    clear c
    by_cases hq0 : q = 0
    · subst hq0
      go_wp2_with fail
      refine (c_pick _ _ _ _ _ (by omega) (by omega) r).mono ?_
      clear r
      rintro e w5 ⟨y, rfl, yq, r, c⟩
      have s5 := c.size
      obtain ⟨y0, y1⟩ := yq.1 (by omega)
      clear yq
      replace hw := hw.chg c (by omega)
      replace b := b.trans (c.below (by omega) (by omega))
      clear c
      go_wp2
      refine bodyPost_ret (v := .tuple #[.slice (some ⟨g, off, none⟩) xs.length cap, .int .i64 f, .int .i64 y, .int .i64 d]) (by simp [results, Try.results17, go_sem]) rfl ?_
      exact ⟨_, xs, _, _, _, rfl, hw.isI hw.lt, b⟩
    · have t0 : (q == 0) = false := by simpa using hq0
      clear hq0
      by_cases hq1 : q = 1
      · subst hq1
        go_wp2_with fail
        refine (c_numLit _ _ _ _ _ [(-1), 61, 9223372036854775807] rfl (by intro x hx; simp at hx; omega) (by omega) (by simp) (by simp) _ rfl r).mono ?_
        clear r
        rintro e w6 ⟨y, rfl, yq, r, c⟩
        have s6 := c.size
        simp only [List.mem_cons, List.not_mem_nil, or_false] at yq
        replace hw := hw.chg c (by omega)
        replace b := b.trans (c.below (by omega) (by omega))
        clear c
        go_wp2
        refine bodyPost_ret (v := .tuple #[.slice (some ⟨g, off, none⟩) xs.length cap, .int .i64 f, .int .i64 y, .int .i64 d]) (by simp [results, Try.results17, go_sem]) rfl ?_
        exact ⟨_, xs, _, _, _, rfl, hw.isI hw.lt, b⟩
      · have t1 : (q == 1) = false := by simpa using hq1
        clear hq1
        go_wp2
        refine bodyPost_ret (v := .tuple #[.slice (some ⟨g, off, none⟩) xs.length cap, .int .i64 f, .int .i64 _, .int .i64 d]) (by simp [results, Try.results17, go_sem]; rfl) rfl ?_
        exact ⟨_, xs, _, _, _, rfl, hw.isI hw.lt, b⟩
theorem sgOk_iff {xs : List Int} {f c d : Int} (h : sgOk xs f c d = true) : SM xs = true ∧ (0 ≤ d ∧ d ≤ 6) ∧ (0 ≤ f ∧ f ≤ (xs.length : Int) - 1) ∧ (1 ≤ c ∧ c ≤ (xs.length : Int) - f) ∧ rnOk ((xs.drop f.toNat).take c.toNat) d = true := by
  simp only [sgOk, Bool.and_eq_true, inB_iff] at h; exact h
set_option maxRecDepth 100000 in
set_option maxHeartbeats 3200000 in
theorem w_FnSegmentOf (w : World) (v : Value) (nb : Nat) (hv : IsBy w w.heap.size v nb) :
    Calls Try.prog 6 #[v] w fun e w' => e = .returned (.bool true) ∧ Below w.heap.size w w' := by
  have hD := c_DrawSegmentOf w v nb hv
  obtain ⟨a, cap, hva, hm, hc⟩ := id hv
  subst hva
  unfold maxLen at hm
  clear hc
  by_cases hbig : 1048576 < nb
  · clear hv hD
    go_enter Try.func6, Try.ntmps6
    go_wp2_with fail
    go_ret
    exact ⟨rfl, Below.refl _ _⟩
  · go_enter Try.func6, Try.ntmps6
    go_wp2_with fail
    refine hD.mono ?_
    rintro e w1 ⟨vx, xs, f, c0, d, rfl, hx, b⟩
    have s1 := b.size
    clear hv hD
    go_wp2_with fail
    refine (c_iSegmentOf _ _ xs hx f c0 d).mono ?_
    rintro e w2 ⟨v2, rfl, r2, c⟩
    have s2 := c.size
    replace hx := hx.below c (by omega)
    replace b := b.trans (c.mono (by omega))
    clear c
    obtain ⟨a2, cap2, hv2⟩ := r2.len
    subst hv2
    have g2 := seg_alloc_cells w2 (.int .i64 (sgC xs f c0 d)) (.slice a2 (sgP xs f c0 d).length cap2) 36
    have cA := seg_alloc_chg w2 (.cells #[.int .i64 (sgC xs f c0 d), .slice a2 (sgP xs f c0 d).length cap2] 36) 0 0
    have hszA : (w2.alloc (.cells #[.int .i64 (sgC xs f c0 d), .slice a2 (sgP xs f c0 d).length cap2] 36)).heap.size = w2.heap.size + 1 := by simp
    replace r2 := r2.keep cA (.inr (Nat.zero_le _))
    replace hx := hx.chg cA (.inr (Nat.le_refl _)) (by omega)
    replace b := b.trans (cA.below (.inr (Nat.le_refl _)) (by omega))
    clear cA
    obtain ⟨e00, e01, -⟩ := seg_cells g2 (.int .i64 0)
    go_wp2_with fail
    clear e00 e01
    generalize hwA : (w2.alloc (.cells #[.int .i64 (sgC xs f c0 d), .slice a2 (sgP xs f c0 d).length cap2] 36)) = wA at *
    clear hwA
    refine (c_sSegmentOf _ _ xs (hx.up (by omega)) f c0 d).mono ?_
    rintro e w3 ⟨v3, rfl, r3, c⟩
    have s3 := c.size
    replace g2 := (c.block _ (by omega)).trans g2
    replace r2 := r2.below c (by omega)
    replace hx := hx.below c (by omega)
    replace b := b.trans (c.mono (by omega))
    clear c
    obtain ⟨a3, cap3, hv3⟩ := r3.len
    subst hv3
    have g3 := seg_alloc_cells w3 (.int .i64 (sgC xs f c0 d)) (.slice a3 (sgP xs f c0 d).length cap3) 36
    have cA := seg_alloc_chg w3 (.cells #[.int .i64 (sgC xs f c0 d), .slice a3 (sgP xs f c0 d).length cap3] 36) 0 0
    have hszB : (w3.alloc (.cells #[.int .i64 (sgC xs f c0 d), .slice a3 (sgP xs f c0 d).length cap3] 36)).heap.size = w3.heap.size + 1 := by simp
    replace g2 := (cA.block _ (by omega) (by omega)).trans g2
    replace r2 := r2.keep cA (.inr (Nat.zero_le _))
    replace r3 := r3.keep cA (.inr (Nat.zero_le _))
    replace hx := hx.chg cA (.inr (Nat.le_refl _)) (by omega)
    replace b := b.trans (cA.below (.inr (Nat.le_refl _)) (by omega))
    clear cA
    have t1 : (sgC xs f c0 d != sgC xs f c0 d) = false := by simp
    have t1' : (sgC xs f c0 d == sgC xs f c0 d) = true := by simp
    obtain ⟨e00, e01, -⟩ := seg_cells g2 (.int .i64 0)
    obtain ⟨e10, e11, -⟩ := seg_cells g3 (.int .i64 0)
    go_wp2_with fail
    clear e00 e01 e10 e11
    generalize hwB : (w3.alloc (.cells #[.int .i64 (sgC xs f c0 d), .slice a3 (sgP xs f c0 d).length cap3] 36)) = wB at *
    clear hwB
    refine (deSmC _ _ _ _ _ _ r2.isI r3.isI).mono ?_
    rintro e wC ⟨rfl, c⟩
    have sC := c.size
    replace g2 := (c.block _ (by omega) (by omega)).trans g2
    replace g3 := (c.block _ (by omega) (by omega)).trans g3
    replace r2 := r2.keep c (.inr (Nat.zero_le _))
    replace r3 := r3.keep c (.inr (Nat.zero_le _))
    replace hx := hx.chg c (.inr (Nat.zero_le _)) (by omega)
    replace b := b.trans (c.below (.inr (Nat.zero_le _)) (by omega))
    clear c
    obtain ⟨e00, e01, -⟩ := seg_cells g2 (.int .i64 0)
    obtain ⟨e10, e11, -⟩ := seg_cells g3 (.int .i64 0)
    by_cases hok : sgOk xs f c0 d = true
    · obtain ⟨hS, ⟨d0, d1⟩, ⟨f0, f1⟩, ⟨k0, k1⟩, hr⟩ := sgOk_iff hok
      obtain ⟨hsC, hsP⟩ := sg_yes hok
      obtain ⟨fn, rfl⟩ : ∃ fn : Nat, f = fn := ⟨f.toNat, by omega⟩
      obtain ⟨cn, rfl⟩ : ∃ cn : Nat, c0 = cn := ⟨c0.toNat, by omega⟩
      obtain ⟨dn, rfl⟩ : ∃ dn : Nat, d = dn := ⟨d.toNat, by omega⟩
      have hl := SM_iff.1 hS
      have hl60 := hl.2.1
      rw [show (fn : Int).toNat = fn by omega, show (cn : Int).toNat = cn by omega] at hr hsP
      have hS2 := SM_take (SM_drop hS (n := fn) (by omega)) (n := cn) (by omega)
      obtain ⟨p1, p2, p3, p4⟩ := seg_law hS2 (show dn ≤ 6 by omega) hr
      rw [← hsP] at p1 p2 p3 p4
      have hlen : ((xs.drop fn).take cn).length = cn := by rw [List.length_take, List.length_drop]; omega
      rw [hlen] at p2 p4
      have HP1 := hid p1
      have HP4 := hid (fun i (hi : i < cn) => (p4 i hi).trans (show el ((xs.drop fn).take cn) i = el xs (fn + i) by rw [el_take hi, el_drop]))
      rw [hsC] at g2 g3
      rw [hsC, hok]
      clear hok hS hr hl hS2 p1 p4 hsC hsP hlen
      generalize hps : sgP xs fn cn dn = ps at *
      clear hps t1 t1'
      have t1 : ((cn : Int) != cn) = false := by simp
      have t1' : ((cn : Int) == cn) = true := by simp
      obtain ⟨ax, capx, hvx⟩ : ∃ a cap, vx = .slice a xs.length cap := ⟨_, _, hx.choose_spec.choose_spec.1⟩
      subst hvx
      obtain ⟨ax', capx', hex, hmx, -, hcx⟩ := id hx
      simp only [Value.slice.injEq, true_and] at hex
      obtain ⟨rfl, rfl⟩ := hex
      obtain ⟨bx, ox, rfl, hbx, hcellx⟩ := hcx 0 (by omega)
      have HCX := hid hcellx
      clear hcx hcellx hmx e00 e01 e10 e11
      obtain ⟨e00, e01, -⟩ := seg_cells g2 (.int .i64 0)
      obtain ⟨e10, e11, -⟩ := seg_cells g3 (.int .i64 0)
      obtain ⟨wL, hwL⟩ : ∃ x : World, x = wC := ⟨_, rfl⟩
      have HR2 := hid r2.isI
      go_wp2
      go_loopw [11] (fun i wr => ∃ k : Nat, k ≤ cn ∧ i = .int .i64 k ∧ Chg 0 0 wC wr) (fun i _ => cn - (intOf i).toNat)
      case atStart => exact ⟨0, Nat.zero_le _, rfl, Chg.refl _ _ _⟩
      case round =>
        obtain ⟨k, hk, rfl, cr⟩ := hrel
        have g2' := (cr.block _ (by omega) (by omega)).trans g2
        have hbC := cr.below (B := wC.heap.size) (.inr (Nat.zero_le _)) (Nat.le_refl _)
        clear e00 e01 e10 e11
        obtain ⟨e00, e01, -⟩ := seg_cells g2' (.int .i64 0)
        by_cases hlt : k < cn
        · have hcx := (hbC.cell (p := ⟨bx, ox + (fn + k), none⟩) (show bx < wC.heap.size by omega)).trans (HCX.out (fn + k) (by omega))
          have hv2 := (HR2.out.below hbC (by omega))
          have hev := HP4.out k hlt
          have q1 : IntKind.i64.wrap ((fn : Int) + k) = (fn : Int) + k := IntWalk.i64_in _ (by omega)
          have q2 : ((fn : Int) + k).toNat = fn + k := by omega
          have q3 : (0 : Int) ≤ (fn : Int) + k := by omega
          have q4 : (fn : Int) + k < xs.length := by omega
          have q5 : fn + k < xs.length := by omega
          have hde := fun n => c_deAt (.slice a2 ps.length cap2) ps (k : Int) _ (wr.drewN n) (hv2.drewN n) HP1.out ⟨by omega, by omega⟩
          rw [hev] at hde
          have HDE := hid hde
          clear hde hev
          have t2 : (el xs (fn + k) != el xs (fn + k)) = false := by simp
          go_wp2_with fail
          go_quiet ((go_at_call 21; exact cq (HDE.out _)))
          go_wp2
          go_roundw
          case rel => exact ⟨k + 1, by omega, by go_num, cr.drewN _⟩
          case measure => simp [intOf]; omega
        · obtain rfl : k = cn := by omega
          have hv2 := (HR2.out.below hbC (by omega))
          have hsr := cr.size
          go_wp2_with fail
          refine (c_iDegreeOf _ ps _ (hv2.up (by omega))).mono ?_
          rintro e w5 ⟨rfl, c⟩
          have g5 := (c.block _ (by omega)).trans g2'
          clear e00 e01
          obtain ⟨e00, e01, -⟩ := seg_cells g5 (.int .i64 0)
          generalize degF ps = D at *
          go_wp2
          go_ret
          exact ⟨rfl, (b.trans (hbC.mono (by omega))).trans (c.mono (by omega))⟩
    · have hok' : sgOk xs f c0 d = false := by simpa using hok
      rw [hok']
      clear hok hok'
      go_wp2_with fail
      refine (deSmC _ _ _ _ _ _ r2.isI r3.isI).mono ?_
      rintro e wD ⟨rfl, c⟩
      have sD := c.size
      replace b := b.trans (c.below (.inr (Nat.zero_le _)) (by omega))
      go_wp2
      go_ret
      exact ⟨rfl, b⟩
end Go.Proofs.Ytkiebajggombiaa
