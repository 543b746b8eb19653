/- What is proved here: contracts of l4List, l4BadList and DrawApplyErrata. -/
import Derived.Test.YtlinkeemccnfmaaDoorDraw3
import Derived.Test.YtlinkeemccnfmaaDoorEof
import Derived.Test.YtlinkeemccnfmaaDoorErM
set_option linter.unusedVariables false
set_option linter.unusedSimpArgs false
namespace Go.Proofs.YtlinkeemccnfmaaDoor
open Go.RowKit

theorem OwnE.chg {w w' : World} {B lo hi n : Nat} {v : Value} {zs : List Int} (h : OwnE w B v n zs) (c : Chg lo hi w w') (hb : hi ≤ B) : OwnE w' B v n zs :=
  ownsRow_of_block h fun k hk => c.block k (h.lt k hk).2 (by have := (h.lt k hk).1; omega)
theorem OwnE.split {w : World} {lo n : Nat} {v : Value} {zs : List Int} (h : OwnE w lo v n zs) (hl : zs.length = n * 3) (hn : 0 < n) :
    ∃ g cap, v = .slice (some ⟨g, 0, none⟩) n cap ∧ lo ≤ g ∧ g < w.heap.size ∧ (n ≤ cap ∧ cap ≤ maxLen) ∧ (∀ j, j < n * 3 → w.cell? ⟨g, j, none⟩ = some (.int .i64 (el zs j))) ∧ (∀ j, w.frozen? ⟨g, j, none⟩ = false) := by
  rcases h.2 with ⟨rfl, hn'⟩ | ⟨g, cap, cur, rfl, hbg, hgg, hnc, hcm, hcs, hct⟩
  · omega
  · refine ⟨g, cap, rfl, hbg, (Array.getElem?_eq_some_iff.1 hgg).1, ⟨hnc, hcm⟩, fun j hj => ?_, row_free hgg⟩
    rw [row_cell hgg, ← map_int_at zs j (by omega), ← hct, List.getElem?_take, if_pos (by omega), Array.getElem?_toList]
theorem OwnE.set {w : World} {lo n g cap : Nat} {zs : List Int} (h : OwnE w lo (.slice (some ⟨g, 0, none⟩) n cap) n zs) (hl : zs.length = n * 3) {q : Nat} (hq : q < n * 3) (x : Int) :
    OwnE (w.setCell ⟨g, q, none⟩ (.int .i64 x)) lo (.slice (some ⟨g, 0, none⟩) n cap) n (zs.set q x) := by
  rcases h.2 with ⟨hv, hn'⟩ | ⟨g', cap', cur, hv, hbg, hgg, hnc, hcm, hcs, hct⟩
  · omega
  · simp only [Value.slice.injEq, Option.some.injEq, Addr.mk.injEq, true_and, and_true] at hv
    obtain ⟨rfl, rfl⟩ := hv
    refine own_of_flat (row_set hgg _ _) hbg hnc hcm (by simpa using hcs) (by simpa using hl) fun i hi => ?_
    rw [Array.getElem?_setIfInBounds]
    by_cases e : q = i
    · subst e
      rw [if_pos rfl, if_pos (by rw [hcs]; exact Nat.lt_of_lt_of_le hq (Nat.mul_le_mul_right 3 hnc)), map_int_at _ _ (by simp; omega), el_set_same (by omega)]
    · rw [if_neg e, map_int_at _ _ (by simp; omega), el_set_other e, ← map_int_at zs i (by omega), ← hct, List.getElem?_take, if_pos (by omega), Array.getElem?_toList]
theorem R64.set {xs : List Int} (h : R64 xs) {j : Nat} {x : Int} (hx : -9223372036854775808 ≤ x ∧ x ≤ 9223372036854775807) : R64 (xs.set j x) := by
  refine R64.of_el fun k hk => ?_
  rw [List.length_set] at hk
  by_cases e : j = k
  · subst e; rw [el_set_same hk]; exact hx
  · rw [el_set_other e]; exact h.at k
theorem OwnE.isI {w : World} {lo n : Nat} {v : Value} {zs : List Int} (h : OwnE w lo v n zs) (hl : zs.length = n * 3) (hr : R64 zs) : IsE w w.heap.size v zs := (h.rw hl hr (Nat.le_refl _)).isI

/-- What is left where a table and errata were drawn. -/
def DrewTE (w : World) (B g L : Nat) (e : Ending) (w' : World) : Prop :=
  ∃ (b cap n : Nat) (xs : List Int) (u : Value) (zs : List Int), e = .returned (.tuple #[.slice (some ⟨b, 0, none⟩) xs.length cap, u]) ∧ (xs.length ≤ 60 ∧ n ≤ 60 ∧ zs.length = n * 3 ∧ R64 zs ∧ EV zs = true) ∧ (w.heap.size ≤ b ∧ Wc w' b 0 cap xs) ∧ (∃ H, b < H ∧ H ≤ w'.heap.size ∧ OwnE w' H u n zs) ∧ Rd w' B g L ∧ Chg g (g + 1) w w'
set_option maxHeartbeats 800000 in
theorem c_l4List (w : World) (B g L : Nat) (hL : L ≤ 10000) (r : Rd w B g L) :
    Calls Tryd.prog 31 #[.pointer (some ⟨g, 0, none⟩)] w (DrewTE w B g (L + 70)) := by
  have hgl := r.lt
  have hge := r.ge
  go_enter Tryd.func31, Tryd.ntmps31
  go_wp2_with fail
  refine (c_l2Table _ _ _ _ (by omega) r).mono ?_
  clear r
  rintro e w1 ⟨g1, cap1, xs, rfl, ⟨⟨x0, x1⟩, xb⟩, hg1, hw1, r, cc⟩
  have s1 := cc.size
  have hgl1 := hw1.lt
  clear xb
  have hx1 := (hw1.isI (hi := w1.heap.size) hgl1).alloc (.cells #[] 3) (Nat.le_refl _)
  go_wp2_with (at_builtin; refine wpList_appIs rfl _ _ _ rfl Tryd.underlying52 Tryd.infoInt w1.heap.size (.slice (some ⟨w1.heap.size, 0, none⟩) 0 0) [] (by rfl) (OwnI.empty w1 (Nat.le_refl _) rfl) _ _ xs hx1 (by rfl) (by simp; omega) (by simp) ?_; intro v4 w2 ho4 b4; obtain ⟨g2, cap2, hv4, hg2, hl2, hw2⟩ := ho4.wc (by simp; omega) hw1.range; rw [hv4] at ho4 ⊢; clear hv4)
  simp only [List.nil_append] at ho4 hw2 ⊢
  have s2 : w1.heap.size ≤ w2.heap.size := by have := b4.size; simp at this; omega
  have b5 := (RetRow.e1 w1 (.cells #[] 3)).trans b4
  clear b4 ho4 hx1
  replace hw1 := hw1.below b5 hgl1
  replace r := r.below b5 (by omega)
  replace cc := cc.bel (b5.mono s1)
  clear b5
  go_wp2_with fail
  refine (c_pick _ _ _ _ _ (by omega) (by omega) r).mono ?_
  clear r
  rintro e w2 ⟨m, rfl, mq, r, c⟩
  have s2 := c.size
  obtain ⟨m0, m1⟩ := mq.1 (by omega)
  clear mq
  replace cc := cc.trans c
  replace hw1 := hw1.chg c (by omega)
  replace hw2 := hw2.chg c (by omega)
  clear c
  go_wp2
  generalize hn : xs.length = n at *
  have HN := hid hn
  clear hn
  go_loopw [6] (fun i wr => ∃ (j : Nat) (ys : List Int), i = .int .i64 j ∧ j ≤ 3 ∧ Hid (ys.length = n) ∧ Wc wr g1 0 cap1 xs ∧ Wc wr g2 0 cap2 ys ∧ Rd wr B g (L + 69 - 2 * j) ∧ Chg g (g + 1) w wr ∧ w2.heap.size ≤ wr.heap.size) (fun i _ => (intOf i).toNat)
  case atStart => exact ⟨m.toNat, xs, by rw [show ((m.toNat : Nat) : Int) = m by omega], by omega, HN, hw1, hw2, r.up (by omega), cc, by omega⟩
  case round =>
    clear hw1 hw2 r cc
    obtain ⟨j, ys, rfl, hj, HY, hw1, hw2, r, cc, hws⟩ := hrel
    have hgs := cc.size
    have hbl := hw2.lt
    by_cases hlt : 0 < j
    · have k0 : 0 < (j : Int) := by omega
      go_wp2_with fail
      refine (c_pick _ _ _ _ _ (by omega) (by omega) r).mono ?_
      clear r
      rintro e w3 ⟨kk, rfl, kkq, r, c⟩
      have s3 := c.size
      obtain ⟨kk0, kk1⟩ := kkq.1 (by omega)
      clear kkq
      replace cc := cc.trans c
      replace hw1 := hw1.chg c (by omega)
      replace hw2 := hw2.chg c (by omega)
      clear c
      obtain ⟨q, rfl⟩ : ∃ q : Nat, kk = q := ⟨kk.toNat, by omega⟩
      go_wp2_with fail
      refine (c_pick _ _ _ _ _ (by omega) (by omega) r).mono ?_
      clear r
      rintro e w4 ⟨y, rfl, yq, r, c⟩
      have s4 := c.size
      obtain ⟨y0, y1⟩ := yq.1 (by omega)
      clear yq
      replace cc := cc.trans c
      replace hw1 := hw1.chg c (by omega)
      replace hw2 := hw2.chg c (by omega)
      clear c
      have hq : q < ys.length := by rw [HY.out]; omega
      have hc := hw2.cell0 q hq
      have hf := hw2.free q
      have hw6 := hw2.set0 hq (x := y) (by omega)
      replace r := (r.setb (b := g2) (by omega) (by omega) q (.int .i64 y)).up (show L + 69 - 2 * j + 1 + 1 ≤ L + 69 - 2 * (j - 1) by omega)
      replace hw1 := hw1.chg (set_chg _ g2 q (.int .i64 y)) (by omega)
      replace cc := cc.bel ((Below.refl w.heap.size _).setCell (p := ⟨g2, q, none⟩) (by show w.heap.size ≤ g2; omega) (.int .i64 y))
      have k1 : (q : Int) < n := by omega
      go_wp2
      go_roundw
      case rel => exact ⟨j - 1, ys.set q y, by rw [show ((j - 1 : Nat) : Int) = (j : Int) - 1 by omega], by omega, by show _ = _; simpa using HY.out, hw1, hw6, r, cc, by simp [World.setCell]; omega⟩
      case measure => simp [intOf]; omega
    · have k0 : ¬ 0 < (j : Int) := by omega
      have hi1 := hw1.isI (hi := wr.heap.size) hw1.lt
      have hi2 := hw2.isI (hi := wr.heap.size) hw2.lt
      rw [HN.out] at hi1
      rw [HY.out] at hi2
      have hEL := erF_len (xs := xs) (ys := ys)
      go_wp2_with fail
      refine (c_sErrataOf _ _ xs hi1 _ ys hi2).mono ?_
      rintro e w6 ⟨v6, rfl, ⟨n6, HL6, ho6, hk6, hr6⟩, c6⟩
      have s6 := c6.size
      replace hw2 := hw2.below c6 hbl
      replace r := r.below c6 (by omega)
      replace cc := cc.bel (c6.mono hgs)
      go_wp2
      go_ret2
      exact ⟨g2, cap2, n6, ys, _, _, by rw [HY.out]; rfl, ⟨by rw [HY.out]; omega, by have := HL6.out; omega, HL6.out, hr6, erF_ev _ _⟩, ⟨by omega, hw2⟩, ⟨wr.heap.size, hbl, s6, ho6⟩, r.up (by omega), cc⟩

theorem wpList_appE {P : Program} {ops : Array Oper} {rest : List Oper} {o : Oper} {a : Act} {Q : Exit → Act → World → Prop} {w : World} {y1 y2 y3 : Int} (hgd : o.guard = none) (s x : Operand) (T : TypeId)
    (ho : o.op = .call { callee := .builtin .append, args := #[s, x], argTypes := #[T, T] }) (hT : P.underlying T = some (.slice 40))
    (hinf : (P.info? 40).map (fun i => (i.zero, i.size, i.bytes)) = some (some (.agg #[.int .i64 0, .int .i64 0, .int .i64 0]), 3, 24))
    (B : Nat) (v : Value) (n : Nat) (xs : List Int) (hs : a.eval s = v) (hx : a.eval x = .slice (some ⟨w.heap.size, 0, none⟩) 1 1) (hown : OwnE w B v n xs) (hn : n ≤ 1099511627776) (hbase : B ≤ w.heap.size)
    (h : ∀ v' w', OwnE w' B v' (n + 1) (xs ++ [y1, y2, y3]) → Below B w w' → wpList P ops Q rest (a.put o.dst v') w') :
    wpList P ops Q (o :: rest) a (w.alloc (.cells #[.int .i64 y1, .int .i64 y2, .int .i64 y3] 40)) := by
  obtain ⟨i0, hi, hz0, hz1, hz2⟩ := info_parts hinf
  refine wpList_app (news := [.int .i64 y1, .int .i64 y2, .int .i64 y3]) hgd s x T ho B 40 i0 _ 3 24 hT hi hz0 hz1 hz2 rfl (by omega) v _ _ hs hown hx rfl (by simp [Value.oneCell']) hn (by omega) hbase fun v' w' h1 h2 => h v' w' ?_ h2
  unfold OwnE
  simpa using h1
/-- What is left where errata were spoilt or not. -/
def BadE (w : World) (B g L H : Nat) (e : Ending) (w' : World) : Prop :=
  ∃ (u : Value) (zs : List Int), e = .returned u ∧ zs.length ≤ 6000 ∧ IsE w' w'.heap.size u zs ∧ Rd w' B g L ∧ Below B w w' ∧ ∀ k, k < H → k ≠ g → w'.heap[k]? = w.heap[k]?
theorem blk_set {w : World} {b o H : Nat} {u : Value} (hb : H ≤ b) : ∀ k, k < H → (w.setCell ⟨b, o, none⟩ u).heap[k]? = w.heap[k]? := fun k hk => Below.heap_setCell _ _ _ _ (by show k ≠ b; omega)
set_option maxHeartbeats 1600000 in
theorem c_l4BadList (w : World) (B g L H n : Nat) (u : Value) (zs : List Int) (hL : L ≤ 100000) (hn : n ≤ 1000) (hl : zs.length = n * 3) (hz : R64 zs) (hB : B ≤ g ∧ g < H ∧ H ≤ w.heap.size) (ho : OwnE w H u n zs) (r : Rd w B g L) :
    Calls Tryd.prog 46 #[.pointer (some ⟨g, 0, none⟩), u] w (BadE w B g (L + 3) H) := by
  have hgl := r.lt
  have HL := hid hl
  have HZ := hid hz
  have cc : Chg g (g + 1) w w := Chg.refl _ _ _
  obtain ⟨hB0, hB1, hB2⟩ := hB
  clear hl hz
  by_cases h0 : n = 0
  · subst h0
    obtain ⟨a', cap', hn'⟩ : ∃ a' cap', u = .slice a' 0 cap' := by
      rcases ho.2 with ⟨h, _⟩ | ⟨g', cap'', cur, h, _⟩ <;> exact ⟨_, _, h⟩
    subst hn'
    go_enter Tryd.func46, Tryd.ntmps46
    go_wp2
    go_ret
    exact ⟨_, zs, rfl, by have := HL.out; omega, ho.isI HL.out HZ.out, r.up (by omega), Below.refl _ _, fun k _ _ => rfl⟩
  · have t0 : ((n : Int) == 0) = false := by simpa using h0
    obtain ⟨g2, cap2, rfl, hg2, hgl2, ⟨hc1, hc2⟩, -, -⟩ := ho.split HL.out (by omega)
    unfold maxLen at hc2
    go_enter Tryd.func46, Tryd.ntmps46
    go_wp2_with fail
    refine (c_pick _ _ _ _ _ (by omega) (by omega) r).mono ?_
    clear r
    rintro e w3 ⟨k1, rfl, k1q, r, c⟩
    have s3 := c.size
    obtain ⟨k10, k11⟩ := k1q.1 (by omega)
    clear k1q
    replace ho := ho.chg c (by omega)
    replace cc := cc.trans c
    clear c
    obtain ⟨j, rfl⟩ : ∃ j : Nat, k1 = j := ⟨k1.toNat, by omega⟩
    go_wp2_with fail
    refine (c_pick _ _ _ _ _ (by omega) (by omega) r).mono ?_
    clear r
    rintro e w4 ⟨x, rfl, xq, r, c⟩
    have s4 := c.size
    obtain ⟨x0, x1⟩ := xq.1 (by omega)
    clear xq
    replace ho := ho.chg c (by omega)
    replace cc := cc.trans c
    clear c
    have hj : j < n := by omega
    have hj2 : (j : Int) < n := by omega
    have hcs := cc.size
    rcases (by omega : x = 0 ∨ x = 1 ∨ x = 2 ∨ x = 3 ∨ 4 ≤ x) with h | h | h | h | h
    · subst h
      go_wp2_with fail
      refine (c_numLit _ _ _ _ _ [(-1), 60, 59, 0] rfl (by intro x hx; simp at hx; omega) (by omega) (by simp) (by simp) _ rfl r).mono ?_
      clear r
      rintro e w5 ⟨y, rfl, yq, r, c⟩
      have s5 := c.size
      simp only [List.mem_cons, List.not_mem_nil, or_false] at yq
      replace ho := ho.chg c (by omega)
      replace cc := cc.trans c
      clear c
      obtain ⟨g', cap', he, _, _, _, hcl, hfr⟩ := ho.split HL.out (by omega)
      simp only [Value.slice.injEq, Option.some.injEq, Addr.mk.injEq] at he
      obtain ⟨⟨rfl, -, -⟩, -, rfl⟩ := he
      have c0 := hcl (j * 3) (by omega)
      have f0 := hfr (j * 3)
      have ho2 := ho.set HL.out (q := j * 3) (by omega) y
      have HZ2 := hid (HZ.out.set (j := j * 3) (x := y) (by omega))
      clear hcl hfr
      go_wp2
      go_ret
      exact ⟨_, _, rfl, by have := HL.out; rw [List.length_set]; omega, ho2.isI (by simpa using HL.out) HZ2.out, (r.setb (by omega) (by omega) _ _).up (by omega), (cc.below (by omega) (by omega)).setCell (by show B ≤ g2; omega) _, fun k hk hk2 => (blk_set hg2 k hk).trans (cc.block k (by omega) (by omega))⟩
    · subst h
      obtain ⟨g', cap', he, _, _, _, hcl, hfr⟩ := ho.split HL.out (by omega)
      simp only [Value.slice.injEq, Option.some.injEq, Addr.mk.injEq] at he
      obtain ⟨⟨rfl, -, -⟩, -, rfl⟩ := he
      have c1 := hcl (j * 3 + 1) (by omega)
      have c2 := hcl (j * 3 + 2) (by omega)
      have f1 := hfr (j * 3 + 1)
      have ho2 := ho.set HL.out (q := j * 3 + 1) (by omega) (el zs (j * 3 + 2))
      have HZ2 := hid (HZ.out.set (j := j * 3 + 1) (x := el zs (j * 3 + 2)) (HZ.out.at _))
      clear hcl hfr
      go_wp2
      go_ret
      exact ⟨_, _, rfl, by have := HL.out; rw [List.length_set]; omega, ho2.isI (by simpa using HL.out) HZ2.out, (r.setb (by omega) (by omega) _ _).up (by omega), (cc.below (by omega) (by omega)).setCell (by show B ≤ g2; omega) _, fun k hk hk2 => (blk_set hg2 k hk).trans (cc.block k (by omega) (by omega))⟩
    · subst h
      obtain ⟨g', cap', he, _, _, _, hcl, hfr⟩ := ho.split HL.out (by omega)
      simp only [Value.slice.injEq, Option.some.injEq, Addr.mk.injEq] at he
      obtain ⟨⟨rfl, -, -⟩, -, rfl⟩ := he
      have c0 := hcl (j * 3) (by omega)
      have c1 := hcl (j * 3 + 1) (by omega)
      have c2 := hcl (j * 3 + 2) (by omega)
      have HZ2 := hid (HZ.out.append (ys := [el zs (j * 3), el zs (j * 3 + 1), el zs (j * 3 + 2)]) (by
        intro z hz; simp only [List.mem_cons, List.not_mem_nil, or_false] at hz
        rcases hz with rfl | rfl | rfl <;> exact HZ.out.at _))
      clear hcl hfr
      go_wp2_with (at_builtin; refine wpList_appE rfl _ _ _ rfl Tryd.underlying25 Tryd.infoErr H _ n zs (by rfl) (by rfl) ho (by omega) (by omega) ?_; intro v2 w2 ho2 hb2)
      go_ret
      exact ⟨_, _, rfl, by have := HL.out; rw [List.length_append]; simp; omega, ho2.isI (by simp [HL.out]; omega) HZ2.out, (r.below hb2 (by omega)).up (by omega), (cc.below (by omega) (by omega)).trans (hb2.mono (by omega)), fun k hk hk2 => (hb2.block k hk).trans (cc.block k (by omega) (by omega))⟩
    · subst h
      go_wp2_with fail
      refine (c_numLit _ _ _ _ _ [1000000000, 1000000001] rfl (by intro x hx; simp at hx; omega) (by omega) (by simp) (by simp) _ rfl r).mono ?_
      clear r
      rintro e w6 ⟨y, rfl, yq, r, c⟩
      have s6 := c.size
      simp only [List.mem_cons, List.not_mem_nil, or_false] at yq
      replace ho := ho.chg c (by omega)
      replace cc := cc.trans c
      clear c
      obtain ⟨g', cap', he, _, _, _, hcl, hfr⟩ := ho.split HL.out (by omega)
      simp only [Value.slice.injEq, Option.some.injEq, Addr.mk.injEq] at he
      obtain ⟨⟨rfl, -, -⟩, -, rfl⟩ := he
      have c0 := hcl (j * 3 + 2) (by omega)
      have f0 := hfr (j * 3 + 2)
      have ho2 := ho.set HL.out (q := j * 3 + 2) (by omega) y
      have HZ2 := hid (HZ.out.set (j := j * 3 + 2) (x := y) (by omega))
      clear hcl hfr
      go_wp2
      go_ret
      exact ⟨_, _, rfl, by have := HL.out; rw [List.length_set]; omega, ho2.isI (by simpa using HL.out) HZ2.out, (r.setb (by omega) (by omega) _ _).up (by omega), (cc.below (by omega) (by omega)).setCell (by show B ≤ g2; omega) _, fun k hk hk2 => (blk_set hg2 k hk).trans (cc.block k (by omega) (by omega))⟩
    · have t1 : (x == 0) = false := by simp; omega
      have t2 : (x == 1) = false := by simp; omega
      have t3 : (x == 2) = false := by simp; omega
      have t4 : (x == 3) = false := by simp; omega
      go_wp2
      go_ret
      exact ⟨_, zs, rfl, by have := HL.out; omega, ho.isI HL.out HZ.out, r.up (by omega), cc.below (by omega) (by omega), fun k hk hk2 => cc.block k (by omega) (by omega)⟩

/-- What is left by a call that answers some table and some errata. -/
def TabE (w : World) (e : Ending) (w' : World) : Prop := ∃ v u xs zs, e = .returned (.tuple #[v, u]) ∧ zs.length ≤ 6000 ∧ IsI w' w'.heap.size v xs ∧ IsE w' w'.heap.size u zs ∧ Below w.heap.size w w'
theorem c_DrawApplyErrata (w : World) (v : Value) (k : Nat) (hv : IsBy w w.heap.size v k) :
    Calls Tryd.prog 29 #[v] w (TabE w) := by
  go_enter Tryd.func29, Tryd.ntmps29
  go_wp2_with fail
  refine (c_l9Open _ _ _ hv).mono ?_
  rintro e w0 ⟨rfl, r, b, sz⟩
  clear hv
  go_wp2_with fail
  refine (c_l4List _ _ _ _ (by omega) r).mono ?_
  clear r
  rintro e w1 ⟨g, cap, n, xs, u, zs, rfl, ⟨x0, x1, hl, hz, -⟩, ⟨hg, hw⟩, ⟨H, hH1, hH2, ho⟩, r, cc⟩
  have s1 := cc.size
  replace b := b.trans (cc.below (by omega) (by omega))
  clear cc
  go_wp2_with fail
  refine (c_l4BadList _ _ _ _ H n _ zs (by omega) (by omega) hl hz ⟨Nat.le_refl _, by omega, hH2⟩ ho r).mono ?_
  clear r
  rintro e w2 ⟨u2, zs2, rfl, hz2, hu2, r, b2, hk⟩
  have s2 := b2.size
  have hw2 : Wc w2 g 0 cap xs := by
    obtain ⟨cur, h1, h2⟩ := hw
    exact ⟨cur, (hk g hH1 (by omega)).trans h1, h2⟩
  go_wp2
  go_ret2
  exact ⟨_, _, xs, zs2, rfl, hz2, hw2.isI hw2.lt, hu2, b.trans b2⟩
end Go.Proofs.YtlinkeemccnfmaaDoor
