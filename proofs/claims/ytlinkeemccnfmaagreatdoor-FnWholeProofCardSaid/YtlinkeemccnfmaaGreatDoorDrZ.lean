/- What is proved here: contracts of spec.l2Bad, l2Open, l2Number, l1Wide and DrawSetUp: what is drawn lies in its range and nothing but the reader is touched. -/
import Derived.Test.YtlinkeemccnfmaaGreatDoorDraw2
set_option linter.unusedVariables false
set_option linter.unusedSimpArgs false
namespace Go.Proofs.YtlinkeemccnfmaaGreatDoor
open Go.RowKit

theorem c_l2BadZ (w0 w : World) (B g L : Nat) (v : Value) (p : List Int) (hL : L ≤ 100000) (h1 : 1 ≤ p.length) (h2 : p.length ≤ 6) (hb : Bd 1000 p) (r : Rd w B g L) (cc : Chg g (g + 1) w0 w) (hgl : g < w0.heap.size) (ho : OwnI w w0.heap.size v p) :
    Calls Tryz.prog 54 #[.pointer (some ⟨g, 0, none⟩), v] w (DrewTab w0 B g (L + 20) fun xs => xs.length ≤ 8) := by
  have hR := (hb.mono (c := 1000) (by omega)).r64 (by omega)
  obtain ⟨b, cap, rfl, hbb, hbl, hw⟩ := ho.wc (by omega) hR
  have HR := hid hR
  clear hb hR
  have hge := r.ge
  have hgs := cc.size
  obtain ⟨hcap, hcm⟩ := hw.len
  unfold maxLen at hcm
  go_enter Tryz.func54, Tryz.ntmps54
  go_wp2_with fail
  refine (c_pick _ _ _ _ _ (by omega) (by omega) r).mono ?_
  clear r
  rintro e w2 ⟨k, rfl, kq, r, c⟩
  have s2 := c.size
  obtain ⟨k0, k1⟩ := kq.1 (by omega)
  clear kq
  replace ho := ho.chg c (by omega)
  replace hw := hw.chg c (by omega)
  replace cc := cc.trans c
  clear c
  obtain ⟨j, rfl⟩ : ∃ j : Nat, k = j := ⟨k.toNat, by omega⟩
  go_wp2_with fail
  refine (c_pick _ _ _ _ _ (by omega) (by omega) r).mono ?_
  clear r
  rintro e w3 ⟨x, rfl, xq, r, c⟩
  have s3 := c.size
  obtain ⟨x0, x1⟩ := xq.1 (by omega)
  clear xq
  replace ho := ho.chg c (by omega)
  replace hw := hw.chg c (by omega)
  replace cc := cc.trans c
  clear c
  rcases (by omega : x = 0 ∨ x = 1 ∨ x = 2 ∨ 3 ≤ x) with h | h | h | h
  · subst h
    go_wp2_with fail
    refine (c_numLit _ _ _ _ _ [100000, 100001, (-100000), (-100001), 9223372036854775807] rfl (by intro x hx; simp at hx; omega) (by omega) (by simp) (by simp) _ rfl r).mono ?_
    clear r
    rintro e w4 ⟨y, rfl, yq, r, c⟩
    have s4 := c.size
    simp only [List.mem_cons, List.not_mem_nil, or_false] at yq
    replace ho := ho.chg c (by omega)
    replace hw := hw.chg c (by omega)
    replace cc := cc.trans c
    clear c
    have hj : j < p.length := by omega
    have hc := hw.cell0 j hj
    have hf := hw.free j
    have hw2 := hw.set0 hj (x := y) (by omega)
    have HS' := hid (show p.length = (p.set j y).length by simp)
    go_wp2
    go_ret
    exact ⟨b, cap, p.set j y, by rw [HS'.out]; rfl, (show (p.set j y).length ≤ 8 by rw [← HS'.out]; omega), hbb, hw2, (r.setb (by omega) (by omega) _ _).up (by omega), cc.bel ((Below.refl _ _).setCell hbb _)⟩
  · subst h
    go_wp2
    go_ret
    exact ⟨b, cap, [], rfl, by simp, hbb, hw.take 0, r.up (by omega), cc⟩
  · subst h
    clear hw
    go_wp2
    generalize hv : Value.slice (some ⟨b, 0, none⟩) p.length cap = v at *
    go_loopw [1] (fun i wr => ∃ (xs : List Int), (1 ≤ xs.length ∧ xs.length ≤ 8) ∧ R64 xs ∧ OwnI wr w0.heap.size i xs ∧ Rd wr B g (L + 2) ∧ Chg g (g + 1) w0 wr) (fun i _ => 8 - (match i with | .slice _ n _ => n | _ => 0))
    case atStart => exact ⟨p, ⟨h1, by omega⟩, HR.out, ho, r, cc⟩
    case round =>
      clear ho r cc hv
      obtain ⟨xs, ⟨hx0, hx1⟩, hR, ho, r, cc⟩ := hrel
      have HR' := hid hR
      clear hR
      have hgs' := cc.size
      obtain ⟨b2, cap2, rfl, hbb2, hbl2, hw⟩ := ho.wc (by omega) HR'.out
      obtain ⟨hcap2, hcm2⟩ := hw.len
      unfold maxLen at hcm2
      by_cases hlt : xs.length < 8
      · clear hw
        go_wp2_with (at_builtin; refine wpList_appI rfl _ _ _ rfl Tryz.underlying23 Tryz.infoInt w0.heap.size _ xs (by rfl) (by rfl) ho (by omega) (by omega) ?_; intro v2 w2 ho2 hb2)
        have hR2 : R64 (xs ++ [1]) := fun x hx => by
          rcases List.mem_append.1 hx with h | h
          · exact HR'.out x h
          · simp at h; omega
        obtain ⟨b3, cap3, rfl, -, -, -⟩ := ho2.wc (by simp) hR2
        go_roundw
        case rel => exact ⟨xs ++ [1], ⟨by simp, by simp; omega⟩, hR2, ho2, (r.below hb2 (by omega)), cc.bel hb2⟩
        case measure => simp; omega
      · go_wp2
        go_ret
        exact ⟨b2, cap2, xs, rfl, (show xs.length ≤ 8 by omega), hbb2, hw, r.up (by omega), cc⟩
  · have t0 : (x == 0) = false := by simp; omega
    have t1 : (x == 1) = false := by simp; omega
    have t2 : (x == 2) = false := by simp; omega
    go_wp2
    go_ret
    exact ⟨b, cap, p, rfl, (show p.length ≤ 8 by omega), hbb, hw, r.up (by omega), cc⟩

theorem c_l2OpenZ (w : World) (B g L : Nat) (hL : L ≤ 50000) (r : Rd w B g L) :
    Calls Tryz.prog 21 #[.pointer (some ⟨g, 0, none⟩)] w (DrewTab w B g (L + 40) fun xs => xs.length ≤ 8) := by
  have hgl := r.lt
  go_enter Tryz.func21, Tryz.ntmps21
  go_wp2_with fail
  refine (c_l2Some _ _ _ _ (by omega) r).mono ?_
  clear r
  rintro e w1 ⟨v, p, rfl, ⟨⟨p0, p1⟩, pb⟩, ho, r, cc⟩
  go_wp2_with fail
  refine (c_l2BadZ w _ _ _ _ _ p (by omega) p0 p1 pb r cc hgl ho).mono ?_
  rintro e w2 ⟨b, cap, xs, rfl, xl, bb, hw, r2, c2⟩
  go_wp2
  go_ret
  exact ⟨b, cap, xs, rfl, xl, bb, hw, r2.up (by omega), c2⟩

theorem c_l2NumberZ (w : World) (B g L : Nat) (hL : L ≤ 50000) (r : Rd w B g L) :
    Calls Tryz.prog 22 #[.pointer (some ⟨g, 0, none⟩)] w (Drew w B g (L + 2) fun x => -9223372036854775808 ≤ x ∧ x ≤ 9223372036854775807) := by
  have hgl := r.lt
  have hge := r.ge
  have cc : Chg g (g + 1) w w := Chg.refl _ _ _
  go_enter Tryz.func22, Tryz.ntmps22
  go_wp2_with fail
  refine (c_pick _ _ _ _ _ (by omega) (by omega) r).mono ?_
  clear r
  rintro e w2 ⟨x, rfl, xq, r, c⟩
  have s2 := c.size
  obtain ⟨x0, x1⟩ := xq.1 (by omega)
  clear xq
  replace cc := cc.trans c
  clear c
  by_cases h : x = 0
  · subst h
    go_wp2_with fail
    refine (c_numLit _ _ _ _ _ [200, 201, (-200), (-201), 9223372036854775807, (-9223372036854775808)] rfl (by intro x hx; simp at hx; omega) (by omega) (by simp) (by simp) _ rfl r).mono ?_
    clear r
    rintro e w3 ⟨y, rfl, yq, r, c⟩
    have s3 := c.size
    simp only [List.mem_cons, List.not_mem_nil, or_false] at yq
    replace cc := cc.trans c
    clear c
    go_wp2
    go_ret
    exact ⟨_, rfl, by omega, r.up (by omega), cc⟩
  · have t0 : (x == 0) = false := by simpa using h
    clear h
    go_wp2_with fail
    refine (c_pick _ _ _ _ _ (by omega) (by omega) r).mono ?_
    clear r
    rintro e w4 ⟨y, rfl, yq, r, c⟩
    have s4 := c.size
    obtain ⟨y0, y1⟩ := yq.1 (by omega)
    clear yq
    replace cc := cc.trans c
    clear c
    go_wp2
    go_ret
    exact ⟨_, rfl, by omega, r.up (by omega), cc⟩

theorem c_l1AnyZ (w : World) (B g L : Nat) (hL : L ≤ 60000) (r : Rd w B g L) :
    Calls Tryz.prog 57 #[.pointer (some ⟨g, 0, none⟩)] w (Drew w B g (L + 1) fun x => -9223372036854775808 ≤ x ∧ x ≤ 9223372036854775807) := by
  have hgl := r.lt
  have hge := r.ge
  have cc : Chg g (g + 1) w w := Chg.refl _ _ _
  go_enter Tryz.func57, Tryz.ntmps57
  go_wp2_with fail
  refine (c_numLit _ _ _ _ _ [4, 6, 1, 2, 3, 5, 8, 12] rfl (by intro x hx; simp at hx; omega) (by omega) (by simp) (by simp) _ rfl r).mono ?_
  clear r
  rintro e w2 ⟨y, rfl, yq, r, c⟩
  have s2 := c.size
  simp only [List.mem_cons, List.not_mem_nil, or_false] at yq
  replace cc := cc.trans c
  clear c
  go_wp2
  go_ret
  exact ⟨_, rfl, by omega, r.up (by omega), cc⟩
theorem c_l1WideZ (w : World) (B g L : Nat) (hL : L ≤ 50000) (r : Rd w B g L) :
    Calls Tryz.prog 24 #[.pointer (some ⟨g, 0, none⟩)] w (Drew w B g (L + 2) fun x => -9223372036854775808 ≤ x ∧ x ≤ 9223372036854775807) := by
  have hgl := r.lt
  have hge := r.ge
  have cc : Chg g (g + 1) w w := Chg.refl _ _ _
  go_enter Tryz.func24, Tryz.ntmps24
  go_wp2_with fail
  refine (c_pick _ _ _ _ _ (by omega) (by omega) r).mono ?_
  clear r
  rintro e w2 ⟨x, rfl, xq, r, c⟩
  have s2 := c.size
  obtain ⟨x0, x1⟩ := xq.1 (by omega)
  clear xq
  replace cc := cc.trans c
  clear c
  by_cases h : x = 0
  · subst h
    go_wp2_with fail
    refine (c_numLit _ _ _ _ _ [0, 13, (-1), 9223372036854775807] rfl (by intro x hx; simp at hx; omega) (by omega) (by simp) (by simp) _ rfl r).mono ?_
    clear r
    rintro e w3 ⟨y, rfl, yq, r, c⟩
    have s3 := c.size
    simp only [List.mem_cons, List.not_mem_nil, or_false] at yq
    replace cc := cc.trans c
    clear c
    go_wp2
    go_ret
    exact ⟨_, rfl, by omega, r.up (by omega), cc⟩
  · have t0 : (x == 0) = false := by simpa using h
    clear h
    go_wp2_with fail
    refine (c_l1AnyZ _ _ _ _ (by omega) r).mono ?_
    rintro e w2 ⟨y, rfl, yq, r2, c2⟩
    go_wp2
    go_ret
    exact ⟨_, rfl, yq, r2.up (by omega), cc.trans c2⟩

/-- What is drawn for FnWholeProof. -/
theorem c_DrawSetUp (w : World) (v : Value) (k : Nat) (hv : IsBy w w.heap.size v k) :
    Calls Tryz.prog 4 #[v] w fun e w' => ∃ (u : Value) (p : List Int) (n wd : Int), e = .returned (.tuple #[u, .int .i64 n, .int .i64 wd]) ∧ p.length ≤ 8 ∧ (-9223372036854775808 ≤ n ∧ n ≤ 9223372036854775807) ∧ (-9223372036854775808 ≤ wd ∧ wd ≤ 9223372036854775807) ∧ IsI w' w'.heap.size u p ∧ Below w.heap.size w w' := by
  go_enter Tryz.func4, Tryz.ntmps4
  go_wp2_with fail
  refine (c_l9Open _ _ _ hv).mono ?_
  rintro e w1 ⟨rfl, r, b1, s1⟩
  clear hv
  go_wp2_with fail
  refine (c_l2OpenZ _ _ _ _ (by omega) r).mono ?_
  clear r
  rintro e w2 ⟨b, cap, p, rfl, xl, bb, hw, r, cc⟩
  have s2 := cc.size
  have hbl := hw.lt
  obtain ⟨hcap, hcm⟩ := hw.len
  unfold maxLen at hcm
  go_wp2_with fail
  refine (c_l2NumberZ _ _ _ _ (by omega) r).mono ?_
  clear r
  rintro e w3 ⟨n, rfl, nq, r, c3⟩
  have s3 := c3.size
  replace hw := hw.chg c3 (by omega)
  replace cc := cc.trans c3
  clear c3
  go_wp2_with fail
  refine (c_pick _ _ _ _ _ (by omega) (by omega) r).mono ?_
  clear r
  rintro e w4 ⟨x, rfl, xq, r, c4⟩
  obtain ⟨x0, x1⟩ := xq.1 (by omega)
  have s4 := c4.size
  replace hw := hw.chg c4 (by omega)
  replace cc := cc.trans c4
  clear c4 xq
  by_cases h : 0 < x
  · go_wp2
    go_ret3
    exact ⟨_, p, n, 8, rfl, xl, nq, by omega, hw.isI (by omega), b1.trans (cc.below (by omega) (by omega))⟩
  · go_wp2_with fail
    refine (c_l1WideZ _ _ _ _ (by omega) r).mono ?_
    clear r
    rintro e w5 ⟨y, rfl, yq, r, c5⟩
    have s5 := c5.size
    replace hw := hw.chg c5 (by omega)
    replace cc := cc.trans c5
    go_wp2
    go_ret3
    exact ⟨_, p, n, y, rfl, xl, nq, yq, hw.isI (by omega), b1.trans (cc.below (by omega) (by omega))⟩
end Go.Proofs.YtlinkeemccnfmaaGreatDoor
