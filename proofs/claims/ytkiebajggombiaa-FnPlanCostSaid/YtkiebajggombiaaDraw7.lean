/- What is proved here: contracts of l5Table (draws of tables of plans). -/
import Derived.Test.YtkiebajggombiaaDraw2
set_option linter.unusedVariables false
set_option linter.unusedSimpArgs false
namespace Go.Proofs.Ytkiebajggombiaa
open Go.RowKit

theorem OwnI.lit1 (w : World) (x : Int) : OwnI (w.alloc (.cells #[.int .i64 x] 3)) w.heap.size (.slice (some ⟨w.heap.size, 0, none⟩) 1 1) [x] :=
  (Blk.new (w := w) (c := #[.int .i64 x]) (xs := [x]) rfl).own (Nat.le_refl _) (by simp [maxLen])
theorem Bd.appL {b : Int} {xs ys : List Int} (h : Bd b xs) (h2 : Bd b ys) : Bd b (xs ++ ys) := by
  intro k hk
  by_cases e : k < xs.length
  · rw [el_append_left e]; exact h k e
  · rw [List.length_append] at hk
    rw [el_append_right (by omega)]; exact h2 _ (by omega)
set_option maxRecDepth 100000 in
set_option maxHeartbeats 1600000 in
theorem c_l5Table (w : World) (B g L : Nat) (hL : L ≤ 50000) (r : Rd w B g L) :
    Calls Try.prog 84 #[.pointer (some ⟨g, 0, none⟩)] w (DrewTab w B g (L + 40) fun xs => (1 ≤ xs.length ∧ xs.length ≤ 21) ∧ Bd BIG xs) := by
  have hgl := r.lt
  have hge := r.ge
  have ho := OwnI.empty w (B := w.heap.size) (c := #[]) (Nat.le_refl _) rfl
  have cc : Chg g (g + 1) w (w.alloc (.cells #[] 3)) := alloc_chg _ _ _ _
  replace r := r.chg (alloc_chg w (.cells #[] 3) B B) (.inl (Nat.le_refl _)) (by omega)
  go_enter Try.func84, Try.ntmps84
  go_wp2_with fail
  refine (c_pick _ _ _ _ _ (by omega) (by omega) r).mono ?_
  clear r
  rintro e w2 ⟨n, rfl, nq, r, c⟩
  have s2 := c.size
  obtain ⟨n0, n1⟩ := nq.1 (by omega)
  clear nq
  replace ho := ho.chg c (by omega)
  replace cc := cc.trans c
  clear c
  go_wp2
  go_loopw [3, 4] (fun v i wr => ∃ (k M : Nat) (ys : List Int), (ys.length + 7 * k ≤ 21 ∧ 1 ≤ ys.length + k) ∧ i = .int .i64 k ∧ OwnI wr w.heap.size v ys ∧ Hid (Bd BIG ys) ∧ M + 6 * k ≤ L + 19 ∧ Rd wr B g M ∧ Chg g (g + 1) w wr) (fun _ i _ => (intOf i).toNat)
  case atStart => exact ⟨(n + 1).toNat, L + 1, [], by simp; omega, by rw [show (((n + 1).toNat : Nat) : Int) = n + 1 by omega, Int.add_comm], ho, Bd.nil _, by omega, r.up (by omega), cc⟩
  case round =>
    clear ho r cc
    obtain ⟨k, M, ys, ⟨hk, hk1⟩, rfl, ho, HB, hM, r, cc⟩ := hrel
    have hgs := cc.size
    by_cases hlt : 0 < k
    · have hkk : 0 < (k : Int) := by omega
      go_wp2_with fail
      refine (c_pick _ _ _ _ _ (by omega) (by omega) r).mono ?_
      clear r
      rintro e w3 ⟨x, rfl, xq, r, c⟩
      have s3 := c.size
      obtain ⟨x0, x1⟩ := xq.1 (by omega)
      clear xq
      replace ho := ho.chg c (by omega)
      replace cc := cc.trans c
      clear c
      have hp := OwnI.lit1 w3 (x - 40)
      have c3 := alloc_chg w3 (.cells #[.int .i64 (x - 40)] 3) g (g + 1)
      have hss : (w3.alloc (.cells #[.int .i64 (x - 40)] 3)).heap.size = w3.heap.size + 1 := by simp
      replace r := r.chg (alloc_chg w3 (.cells #[.int .i64 (x - 40)] 3) B B) (.inl (Nat.le_refl _)) (by omega)
      go_wp2_with fail
      generalize hwL : w3.alloc (.cells #[.int .i64 (x - 40)] 3) = wL at *
      clear hwL
      refine (c_pick _ _ _ _ _ (by omega) (by omega) r).mono ?_
      clear r
      rintro e wM ⟨m, rfl, mq, r, c⟩
      have sM := c.size
      obtain ⟨m0, m1⟩ := mq.1 (by omega)
      clear mq
      replace hp := hp.chg c (by omega)
      replace c3 := c3.trans c
      clear c hss
      go_wp2
      go_loopw [5, 6] (fun p i wr => ∃ (j M' : Nat) (ps : List Int), (ps.length + j ≤ 4 ∧ 1 ≤ ps.length) ∧ i = .int .i64 j ∧ OwnI wr w3.heap.size p ps ∧ Hid (Bd 1000 ps) ∧ M' + j ≤ M + 5 ∧ Rd wr B g M' ∧ Chg g (g + 1) w3 wr) (fun _ i _ => (intOf i).toNat)
      case atStart => exact ⟨m.toNat, _, [x - 40], by simp; omega, by rw [show ((m.toNat : Nat) : Int) = m by omega], hp, (Bd.nil 1000).append (x := x - 40) (by omega), by omega, r, c3⟩
      case round =>
        clear hp r c3
        obtain ⟨j, M', ps, ⟨hj, hj1⟩, rfl, hp, HPB, hM2, r, c3⟩ := hrel
        have hgs3 := c3.size
        by_cases hjl : 0 < j
        · have hjj : 0 < (j : Int) := by omega
          go_wp2_with fail
          refine (c_pick _ _ _ _ _ (by omega) (by omega) r).mono ?_
          clear r
          rintro e w4 ⟨y, rfl, yq, r, c⟩
          have s4 := c.size
          obtain ⟨y0, y1⟩ := yq.1 (by omega)
          clear yq
          replace hp := hp.chg c (by omega)
          replace c3 := c3.trans c
          clear c
          go_wp2_with (at_builtin; refine wpList_appI rfl _ _ _ rfl Try.underlying23 Try.infoInt w3.heap.size _ ps (by rfl) (by rfl) hp (by omega) (by omega) ?_; intro v2 wK hp2 hb2)
          go_roundw
          case rel => exact ⟨j - 1, M' + 1, ps ++ [y - 12], by simp; omega, by rw [show ((j - 1 : Nat) : Int) = (j : Int) - 1 by omega], hp2, HPB.out.append (by omega), by omega, (r.below hb2 (by omega)).up (by omega), c3.bel hb2⟩
          case measure => simp [intOf]; omega
        · obtain rfl : j = 0 := by omega
          go_wp2_with fail
          refine (c_pick _ _ _ _ _ (by omega) (by omega) r).mono ?_
          clear r
          rintro e w5 ⟨q, rfl, qq, r, c⟩
          have s5 := c.size
          obtain ⟨q0, q1⟩ := qq.1 (by omega)
          clear qq
          replace hp := hp.chg c (by omega)
          replace c3 := c3.trans c
          clear c
          have hor := ho.chg c3 (by omega)
          have HR := hid (HPB.out.r64 (by omega))
          go_wp2_with fail
          refine (c_l2ValuesZ _ ps _ _ (hp.isI HR.out) (HPB.out.mono (by omega)) (by omega) (by omega) (by omega)).mono ?_
          rintro e w6 ⟨bv, capv, vs, rfl, ⟨xl, xb⟩, bb, hw, b3⟩
          have s6 := b3.size
          replace r := r.below b3 (by omega)
          replace hp := hp.below b3 (by omega)
          replace c3 := c3.bel (b3.mono (by omega))
          replace hor := hor.below b3 (by omega)
          clear b3
          have VB := hid xb
          have hvi := hw.isI hw.lt
          obtain ⟨xl0, xl1⟩ : 1 ≤ vs.length ∧ vs.length ≤ 7 := by omega
          clear xb hw xl
          go_wp2_with (at_builtin; refine wpList_appIs rfl _ _ _ rfl Try.underlying23 Try.infoInt w.heap.size _ ys (by rfl) hor _ _ vs hvi (by rfl) (by omega) (by omega) ?_; intro v4 wZ ho4 hb4)
          go_roundw
          case rel => exact ⟨k - 1, _, ys ++ vs, by rw [List.length_append]; omega, by rw [show ((k - 1 : Nat) : Int) = (k : Int) - 1 by omega], ho4, HB.out.appL VB.out, by omega, r.below hb4 (by omega), (cc.trans c3).bel (hb4.mono (by omega))⟩
          case measure => simp [intOf]; omega
    · obtain rfl : k = 0 := by omega
      obtain ⟨g4, cap4, hv4, hg4, hl5, hw⟩ := ho.wc (by omega) (HB.out.r64 (by unfold BIG; omega))
      subst hv4
      clear ho
      go_wp2_with fail
      refine (c_pick _ _ _ _ _ (by omega) (by omega) r).mono ?_
      clear r
      rintro e w7 ⟨z, rfl, zq, r, c⟩
      have s7 := c.size
      obtain ⟨z0, z1⟩ := zq.1 (by omega)
      clear zq
      replace cc := cc.trans c
      replace hw := hw.chg c (by omega)
      clear c
      obtain ⟨hcap, hcm⟩ := hw.len
      unfold maxLen at hcm
      by_cases hz : z = 0
      · subst hz
        have hyl : 1 ≤ ys.length ∧ ys.length ≤ 21 := by omega
        go_wp2_with fail
        refine (c_pick _ _ _ _ _ (by omega) (by omega) r).mono ?_
        clear r
        rintro e w8 ⟨k1, rfl, k1q, r, c⟩
        have s8 := c.size
        obtain ⟨k10, k11⟩ := k1q.1 (by omega)
        clear k1q
        replace cc := cc.trans c
        replace hw := hw.chg c (by omega)
        clear c
        obtain ⟨t, rfl⟩ : ∃ t : Nat, k1 = t := ⟨k1.toNat, by omega⟩
        go_wp2_with fail
        refine (c_pick _ _ _ _ _ (by omega) (by omega) r).mono ?_
        clear r
        rintro e w9 ⟨y, rfl, yq, r, c⟩
        have s9 := c.size
        obtain ⟨y0, y1⟩ := yq.1 (by omega)
        clear yq
        replace cc := cc.trans c
        replace hw := hw.chg c (by omega)
        clear c
        have hq : t < ys.length := by omega
        have hc := hw.cell0 t hq
        have hf := hw.free t
        have hw6 := hw.set0 hq (x := y) (by omega)
        have HB6 := hid (HB.out.set (j := t) (x := y) (by unfold BIG; omega))
        replace r := r.setb (b := g4) (by omega) (by omega) t (.int .i64 y)
        have HS := hid (show ys.length = (ys.set t y).length by simp)
        go_wp2
        go_ret
        exact ⟨g4, cap4, ys.set t y, by rw [← HS.out]; rfl, ⟨by rw [← HS.out]; omega, HB6.out⟩, by omega, hw6, r.up (by omega), cc.bel ((Below.refl _ _).setCell (p := ⟨g4, t, none⟩) (by show w.heap.size ≤ g4; omega) _)⟩
      · have hz' : (z == 0) = false := by simpa using hz
        clear hz
        go_wp2
        go_ret
        exact ⟨g4, cap4, ys, rfl, ⟨by omega, HB.out⟩, by omega, hw, r.up (by omega), cc⟩
/-- A table, sometimes a bad one, and a degree, drawn. -/
def DrewSome (w : World) (B g L : Nat) (e : Ending) (w' : World) : Prop :=
  ∃ (b off cap : Nat) (xs : List Int) (d : Int), e = .returned (.tuple #[.slice (some ⟨b, off, none⟩) xs.length cap, .int .i64 d]) ∧ (-1 ≤ d ∧ d ≤ 7) ∧ (B ≤ b ∧ xs.length ≤ 1000) ∧ g ≠ b ∧ Wc w' b off cap xs ∧ Rd w' B g L ∧ Below B w w'
set_option maxRecDepth 100000 in
set_option maxHeartbeats 1600000 in
theorem c_l5Some (w : World) (B g L : Nat) (hL : L ≤ 50000) (r : Rd w B g L) :
    Calls Try.prog 40 #[.pointer (some ⟨g, 0, none⟩)] w (DrewSome w B g (L + 50)) := by
  have hgl := r.lt
  have hge := r.ge
  go_enter Try.func40, Try.ntmps40
  go_wp2_with fail
  refine (c_l5Table _ _ _ _ (by omega) r).mono ?_
  clear r
  rintro e w1 ⟨b, cap, xs, rfl, ⟨⟨x0, x1⟩, -⟩, hg, hw, r, cc⟩
  have s1 := cc.size
  have hbl := hw.lt
  go_wp2_with fail
  refine (c_pick _ _ _ _ _ (by omega) (by omega) r).mono ?_
  clear r
  rintro e w2 ⟨d, rfl, dq, r, c⟩
  have s2 := c.size
  obtain ⟨d0, d1⟩ := dq.1 (by omega)
  clear dq
  replace hw := hw.chg c (by omega)
  replace cc := cc.trans c
  clear c
  go_wp2_with fail
  refine (c_pick _ _ _ _ _ (by omega) (by omega) r).mono ?_
  clear r
  rintro e w3 ⟨x, rfl, xq, r, c⟩
  have s3 := c.size
  obtain ⟨x0, x1⟩ := xq.1 (by omega)
  clear xq
  replace hw := hw.chg c (by omega)
  replace cc := cc.trans c
  clear c
  by_cases hx : x = 0
  · subst hx
    go_wp2_with fail
    refine (c_numLit _ _ _ _ _ [(-1), 7, 6] rfl (by intro x hx; simp at hx; omega) (by omega) (by simp) (by simp) _ rfl r).mono ?_
    clear r
    rintro e w4 ⟨d2, rfl, d2q, r, c⟩
    have s4 := c.size
    simp only [List.mem_cons, List.not_mem_nil, or_false] at d2q
    replace hw := hw.chg c (by omega)
    replace cc := cc.trans c
    clear c
    clear d0 d1
    go_wp2_with fail
    refine (c_pick _ _ _ _ _ (by omega) (by omega) r).mono ?_
    clear r
    rintro e w5 ⟨z, rfl, zq, r, c⟩
    have s5 := c.size
    obtain ⟨z0, z1⟩ := zq.1 (by omega)
    clear zq
    replace hw := hw.chg c (by omega)
    replace cc := cc.trans c
    clear c
    by_cases hz : z = 0
    · subst hz
      go_wp2_with fail
      refine (c_pick _ _ _ _ _ (by omega) (by omega) r).mono ?_
      clear r
      rintro e w6 ⟨k1, rfl, k1q, r, c⟩
      have s6 := c.size
      obtain ⟨k10, k11⟩ := k1q.1 (by omega)
      clear k1q
      replace hw := hw.chg c (by omega)
      replace cc := cc.trans c
      clear c
      obtain ⟨t, rfl⟩ : ∃ t : Nat, k1 = t := ⟨k1.toNat, by omega⟩
      go_wp2_with fail
      refine (c_numLit _ _ _ _ _ [1500, 1501, (-1500), (-1501)] rfl (by intro x hx; simp at hx; omega) (by omega) (by simp) (by simp) _ rfl r).mono ?_
      clear r
      rintro e w7 ⟨y, rfl, yq, r, c⟩
      have s7 := c.size
      simp only [List.mem_cons, List.not_mem_nil, or_false] at yq
      replace hw := hw.chg c (by omega)
      replace cc := cc.trans c
      clear c
      have hq : t < xs.length := by omega
      have hc := hw.cell0 t hq
      have hf := hw.free t
      have hw6 := hw.set0 hq (x := y) (by omega)
      replace r := r.setb (b := b) (by omega) (by omega) t (.int .i64 y)
      have HS := hid (show xs.length = (xs.set t y).length by simp)
      have hw6l := hw6.lt
      go_wp2_with fail
      rw [HS.out]
      refine (c_l2BadTable _ _ _ _ _ _ _ _ (by omega) (by (try simp); omega) (by (try simp); omega) ⟨by omega, by omega⟩ hw6 r).mono ?_
      clear r
      rintro e w9 ⟨g', off, cap', zs, rfl, hg', hw', r, c2⟩
      have s9 := c2.size
      have bb := ((cc.below (B := B) (by omega) (by omega)).setCell (p := ⟨b, t, none⟩) (by show B ≤ b; omega) (.int .i64 y)).trans (c2.below (B := B) (by omega) (by omega) (by omega))
      go_wp2
      go_ret2
      exact ⟨g', off, cap', zs, _, rfl, ⟨by omega, by omega⟩, ⟨by omega, hg'.2⟩, by omega, hw', r.up (by omega), bb⟩
    · have hz' : (z == 0) = false := by simpa using hz
      clear hz
      go_wp2_with fail
      refine (c_l2BadTable _ _ _ _ _ _ _ _ (by omega) (by (try simp); omega) (by (try simp); omega) ⟨by omega, by omega⟩ hw r).mono ?_
      clear r
      rintro e w9 ⟨g', off, cap', zs, rfl, hg', hw', r, c2⟩
      have s9 := c2.size
      have bb := (cc.below (B := B) (by omega) (by omega)).trans (c2.below (B := B) (by omega) (by omega) (by omega))
      go_wp2
      go_ret2
      exact ⟨g', off, cap', zs, _, rfl, ⟨by omega, by omega⟩, ⟨by omega, hg'.2⟩, by omega, hw', r.up (by omega), bb⟩
  · have hx' : (x == 0) = false := by simpa using hx
    clear hx
    go_wp2_with fail
    refine (c_pick _ _ _ _ _ (by omega) (by omega) r).mono ?_
    clear r
    rintro e w8 ⟨z, rfl, zq, r, c⟩
    have s8 := c.size
    obtain ⟨z0, z1⟩ := zq.1 (by omega)
    clear zq
    replace hw := hw.chg c (by omega)
    replace cc := cc.trans c
    clear c
    by_cases hz : z = 0
    · subst hz
      go_wp2_with fail
      refine (c_pick _ _ _ _ _ (by omega) (by omega) r).mono ?_
      clear r
      rintro e w9 ⟨k1, rfl, k1q, r, c⟩
      have s9 := c.size
      obtain ⟨k10, k11⟩ := k1q.1 (by omega)
      clear k1q
      replace hw := hw.chg c (by omega)
      replace cc := cc.trans c
      clear c
      obtain ⟨t, rfl⟩ : ∃ t : Nat, k1 = t := ⟨k1.toNat, by omega⟩
      go_wp2_with fail
      refine (c_numLit _ _ _ _ _ [1500, 1501, (-1500), (-1501)] rfl (by intro x hx; simp at hx; omega) (by omega) (by simp) (by simp) _ rfl r).mono ?_
      clear r
      rintro e w10 ⟨y, rfl, yq, r, c⟩
      have s10 := c.size
      simp only [List.mem_cons, List.not_mem_nil, or_false] at yq
      replace hw := hw.chg c (by omega)
      replace cc := cc.trans c
      clear c
      have hq : t < xs.length := by omega
      have hc := hw.cell0 t hq
      have hf := hw.free t
      have hw6 := hw.set0 hq (x := y) (by omega)
      replace r := r.setb (b := b) (by omega) (by omega) t (.int .i64 y)
      have HS := hid (show xs.length = (xs.set t y).length by simp)
      have hw6l := hw6.lt
      go_wp2_with fail
      rw [HS.out]
      refine (c_l2BadTable _ _ _ _ _ _ _ _ (by omega) (by (try simp); omega) (by (try simp); omega) ⟨by omega, by omega⟩ hw6 r).mono ?_
      clear r
      rintro e w9 ⟨g', off, cap', zs, rfl, hg', hw', r, c2⟩
      have s9 := c2.size
      have bb := ((cc.below (B := B) (by omega) (by omega)).setCell (p := ⟨b, t, none⟩) (by show B ≤ b; omega) (.int .i64 y)).trans (c2.below (B := B) (by omega) (by omega) (by omega))
      go_wp2
      go_ret2
      exact ⟨g', off, cap', zs, _, rfl, ⟨by omega, by omega⟩, ⟨by omega, hg'.2⟩, by omega, hw', r.up (by omega), bb⟩
    · have hz' : (z == 0) = false := by simpa using hz
      clear hz
      go_wp2_with fail
      refine (c_l2BadTable _ _ _ _ _ _ _ _ (by omega) (by (try simp); omega) (by (try simp); omega) ⟨by omega, by omega⟩ hw r).mono ?_
      clear r
      rintro e w9 ⟨g', off, cap', zs, rfl, hg', hw', r, c2⟩
      have s9 := c2.size
      have bb := (cc.below (B := B) (by omega) (by omega)).trans (c2.below (B := B) (by omega) (by omega) (by omega))
      go_wp2
      go_ret2
      exact ⟨g', off, cap', zs, _, rfl, ⟨by omega, by omega⟩, ⟨by omega, hg'.2⟩, by omega, hw', r.up (by omega), bb⟩
set_option maxRecDepth 100000 in
set_option maxHeartbeats 800000 in
theorem c_DrawLongestRun (w : World) (v : Value) (k : Nat) (hv : IsBy w w.heap.size v k) :
    Calls Try.prog 55 #[v] w (fun e w' => ∃ (v : Value) (xs : List Int) (n m : Int), e = .returned (.tuple #[v, .int .i64 n, .int .i64 m]) ∧ IsI w' w'.heap.size v xs ∧ Below w.heap.size w w') := by
  go_enter Try.func55, Try.ntmps55
  go_wp2_with fail
  refine (c_l9Open _ _ _ hv).mono ?_
  rintro e w0 ⟨rfl, r, b, sz⟩
  clear hv
  go_wp2_with fail
  refine (c_l5Some _ _ _ _ (by omega) r).mono ?_
  clear r
  rintro e w1 ⟨g, off, cap, xs, d, rfl, ⟨d0, d1⟩, hg, hne, hw, r, bb⟩
  have s1 := bb.size
  replace b := b.trans bb
  obtain ⟨hcap, hcm⟩ := hw.len
  unfold maxLen at hcm
  clear bb
  have hgl := hw.lt
  obtain ⟨hg, hxl⟩ := hg
  go_wp2_with fail
  refine (c_pick _ _ _ _ _ (by omega) (by omega) r).mono ?_
  clear r
  rintro e w2 ⟨p, rfl, pq, r, c⟩
  have s2 := c.size
  obtain ⟨p0, p1⟩ := pq.1 (by omega)
  clear pq
  replace hw := hw.chg c (by omega)
  replace b := b.trans (c.below (by omega) (by omega))
  clear c
  go_wp2_with fail
  refine (c_pick _ _ _ _ _ (by omega) (by omega) r).mono ?_
  clear r
  rintro e w3 ⟨x, rfl, xq, r, c⟩
  have s3 := c.size
  obtain ⟨x0, x1⟩ := xq.1 (by omega)
  clear xq
  replace hw := hw.chg c (by omega)
  replace b := b.trans (c.below (by omega) (by omega))
  clear c
  by_cases hx : x = 0
  · subst hx
    go_wp2_with fail
    refine (c_numLit _ _ _ _ _ [(-1), (xs.length : Int) + 1, 9223372036854775807] rfl (by intro x hx; simp at hx; omega) (by omega) (by simp) (by simp) _ rfl r).mono ?_
    clear r
    rintro e w4 ⟨y, rfl, yq, r, c⟩
    have s4 := c.size
    simp only [List.mem_cons, List.not_mem_nil, or_false] at yq
    replace hw := hw.chg c (by omega)
    replace b := b.trans (c.below (by omega) (by omega))
    clear c
    go_wp2
    go_ret3
    exact ⟨_, xs, _, _, rfl, hw.isI hw.lt, b⟩
  · have hx' : (x == 0) = false := by simpa using hx
    clear hx
    go_wp2
    go_ret3
    exact ⟨_, xs, _, _, rfl, hw.isI hw.lt, b⟩
end Go.Proofs.Ytkiebajggombiaa
