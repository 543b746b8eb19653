/- What is proved here: the contracts of l4Turn, DrawErrorPattern and DrawSlipEffect. -/
import Derived.Test.YtgdekefpglhoeaaDraw0
set_option linter.unusedVariables false
set_option linter.unusedSimpArgs false
namespace Go.Proofs.Ytgdekefpglhoeaa
open Go.RowKit

/-- Three numbers, whatever they are, drawn from the reader. -/
def Drew3 (w : World) (B g L : Nat) (e : Ending) (w' : World) : Prop :=
  ∃ x y z : Int, e = .returned (.tuple #[.int .i64 x, .int .i64 y, .int .i64 z]) ∧ (I64 x ∧ I64 y ∧ I64 z) ∧ Rd w' B g L ∧ Chg g (g + 1) w w'
/-- What is left by a call that answers four numbers, whatever they are. -/
def FourInts (w : World) (e : Ending) (w' : World) : Prop := ∃ x y z u : Int, e = .returned (.tuple #[.int .i64 x, .int .i64 y, .int .i64 z, .int .i64 u]) ∧ (I64 x ∧ I64 y ∧ I64 z ∧ I64 u) ∧ Below w.heap.size w w'
theorem c_l4Turn (w : World) (B g L : Nat) (hL : L ≤ 100000) (r : Rd w B g L) :
    Calls Try.prog 70 #[.pointer (some ⟨g, 0, none⟩)] w (Drew3 w B g (L + 5)) := by
  have cc : Chg g (g + 1) w w := Chg.refl _ _ _
  have hsz := r.lt
  go_enter Try.func70, Try.ntmps70
  go_wp2_with fail
  refine (c_pick _ _ _ _ _ (by omega) (by omega) r).mono ?_
  clear r
  rintro e w1 ⟨x1, rfl, q, r, c⟩
  have s1 := c.size
  obtain ⟨x10, x11⟩ := q.1 (by omega)
  clear q
  replace cc := cc.trans c
  clear c
  go_wp2_with fail
  refine (c_pick _ _ _ _ _ (by omega) (by omega) r).mono ?_
  clear r
  rintro e w2 ⟨x2, rfl, q, r, c⟩
  have s2 := c.size
  obtain ⟨x20, x21⟩ := q.1 (by omega)
  clear q
  replace cc := cc.trans c
  clear c
  go_wp2_with fail
  refine (c_pick _ _ _ _ _ (by omega) (by omega) r).mono ?_
  clear r
  rintro e w3 ⟨x3, rfl, q, r, c⟩
  have s3 := c.size
  obtain ⟨x30, x31⟩ := q.1 (by omega)
  clear q
  replace cc := cc.trans c
  clear c
  go_wp2_with fail
  refine (c_pick _ _ _ _ _ (by omega) (by omega) r).mono ?_
  clear r
  rintro e w4 ⟨x4, rfl, q, r, c⟩
  have s4 := c.size
  obtain ⟨x40, x41⟩ := q.1 (by omega)
  clear q
  replace cc := cc.trans c
  clear c
  rcases (by omega : x4 = 0 ∨ x4 = 1 ∨ x4 = 2 ∨ 3 ≤ x4) with h | h | h | h
  · subst h
    go_wp2_with fail
    refine (c_numLit _ _ _ _ _ [(-1), 6, 7] rfl (by intro x hx; simp at hx; omega) (by omega) (by simp) (by simp) _ rfl r).mono ?_
    clear r
    rintro e w5 ⟨y, rfl, yq, r, c⟩
    have s5 := c.size
    simp only [List.mem_cons, List.not_mem_nil, or_false] at yq
    replace cc := cc.trans c
    clear c
    go_wp2_with fail
    go_ret3
    exact ⟨_, _, _, rfl, ⟨by unfold I64; omega, by unfold I64; omega, by unfold I64; omega⟩, r.up (by omega), cc⟩
  · subst h
    go_wp2_with fail
    refine (c_numLit _ _ _ _ _ [(-1), 59, 60] rfl (by intro x hx; simp at hx; omega) (by omega) (by simp) (by simp) _ rfl r).mono ?_
    clear r
    rintro e w5 ⟨y, rfl, yq, r, c⟩
    have s5 := c.size
    simp only [List.mem_cons, List.not_mem_nil, or_false] at yq
    replace cc := cc.trans c
    clear c
    go_wp2_with fail
    go_ret3
    exact ⟨_, _, _, rfl, ⟨by unfold I64; omega, by unfold I64; omega, by unfold I64; omega⟩, r.up (by omega), cc⟩
  · subst h
    go_wp2_with fail
    refine (c_numLit _ _ _ _ _ [100000, 100001, (-9223372036854775808)] rfl (by intro x hx; simp at hx; omega) (by omega) (by simp) (by simp) _ rfl r).mono ?_
    clear r
    rintro e w5 ⟨y, rfl, yq, r, c⟩
    have s5 := c.size
    simp only [List.mem_cons, List.not_mem_nil, or_false] at yq
    replace cc := cc.trans c
    clear c
    go_wp2_with fail
    go_ret3
    exact ⟨_, _, _, rfl, ⟨by unfold I64; omega, by unfold I64; omega, by unfold I64; omega⟩, r.up (by omega), cc⟩
  · have t0 : (x4 == 0) = false := by simp; omega
    have t1 : (x4 == 1) = false := by simp; omega
    have t2 : (x4 == 2) = false := by simp; omega
    go_wp2_with fail
    go_ret3
    exact ⟨_, _, _, rfl, ⟨by unfold I64; omega, by unfold I64; omega, by unfold I64; omega⟩, r.up (by omega), cc⟩
theorem c_DrawErrorPattern (w : World) (v : Value) (k : Nat) (hv : IsBy w w.heap.size v k) :
    Calls Try.prog 23 #[v] w (TwoInts w fun x y => I64 x ∧ I64 y) := by
  go_enter Try.func23, Try.ntmps23
  go_wp2_with fail
  refine (c_l9Open _ _ _ hv).mono ?_
  rintro e w0 ⟨rfl, r, b, sz⟩
  clear hv
  go_wp2_with fail
  refine (c_pick _ _ _ _ _ (by omega) (by omega) r).mono ?_
  clear r
  rintro e w1 ⟨x1, rfl, q, r, c⟩
  have s1 := c.size
  obtain ⟨x10, x11⟩ := q.1 (by omega)
  clear q
  replace b := b.trans (c.below (by omega) (by omega))
  clear c
  go_wp2_with fail
  refine (c_pick _ _ _ _ _ (by omega) (by omega) r).mono ?_
  clear r
  rintro e w2 ⟨x2, rfl, q, r, c⟩
  have s2 := c.size
  obtain ⟨x20, x21⟩ := q.1 (by omega)
  clear q
  replace b := b.trans (c.below (by omega) (by omega))
  clear c
  by_cases h2 : x2 = 0
  · subst h2
    go_wp2_with fail
    refine (c_numLit _ _ _ _ _ [(-1), 8, 9223372036854775807] rfl (by intro x hx; simp at hx; omega) (by omega) (by simp) (by simp) _ rfl r).mono ?_
    clear r
    rintro e w3 ⟨y1, rfl, y1q, r, c⟩
    have s3 := c.size
    simp only [List.mem_cons, List.not_mem_nil, or_false] at y1q
    replace b := b.trans (c.below (by omega) (by omega))
    clear c
    go_wp2_with fail
    refine (c_pick _ _ _ _ _ (by omega) (by omega) r).mono ?_
    clear r
    rintro e w4 ⟨x3, rfl, q, r, c⟩
    have s4 := c.size
    obtain ⟨x30, x31⟩ := q.1 (by omega)
    clear q
    replace b := b.trans (c.below (by omega) (by omega))
    clear c
    by_cases h3 : x3 = 0
    · subst h3
      go_wp2_with fail
      refine (c_numLit _ _ _ _ _ [1000000000, 1000000001, (-9223372036854775808)] rfl (by intro x hx; simp at hx; omega) (by omega) (by simp) (by simp) _ rfl r).mono ?_
      clear r
      rintro e w5 ⟨y3, rfl, y3q, r, c⟩
      have s5 := c.size
      simp only [List.mem_cons, List.not_mem_nil, or_false] at y3q
      replace b := b.trans (c.below (by omega) (by omega))
      clear c
      go_wp2_with fail
      go_ret2
      exact ⟨_, _, rfl, ⟨by unfold I64; omega, by unfold I64; omega⟩, b⟩
    · have tb : (x3 == 0) = false := by simp; omega
      go_wp2_with fail
      refine (c_pick _ _ _ _ _ (by omega) (by omega) r).mono ?_
      clear r
      rintro e w5 ⟨y3, rfl, q, r, c⟩
      have s5 := c.size
      obtain ⟨y30, y31⟩ := q.1 (by omega)
      clear q
      replace b := b.trans (c.below (by omega) (by omega))
      clear c
      go_wp2_with fail
      go_ret2
      exact ⟨_, _, rfl, ⟨by unfold I64; omega, by unfold I64; omega⟩, b⟩
  · have ta : (x2 == 0) = false := by simp; omega
    go_wp2_with fail
    refine (c_pick _ _ _ _ _ (by omega) (by omega) r).mono ?_
    clear r
    rintro e w3 ⟨x3, rfl, q, r, c⟩
    have s3 := c.size
    obtain ⟨x30, x31⟩ := q.1 (by omega)
    clear q
    replace b := b.trans (c.below (by omega) (by omega))
    clear c
    by_cases h3 : x3 = 0
    · subst h3
      go_wp2_with fail
      refine (c_numLit _ _ _ _ _ [1000000000, 1000000001, (-9223372036854775808)] rfl (by intro x hx; simp at hx; omega) (by omega) (by simp) (by simp) _ rfl r).mono ?_
      clear r
      rintro e w4 ⟨y3, rfl, y3q, r, c⟩
      have s4 := c.size
      simp only [List.mem_cons, List.not_mem_nil, or_false] at y3q
      replace b := b.trans (c.below (by omega) (by omega))
      clear c
      go_wp2_with fail
      go_ret2
      exact ⟨_, _, rfl, ⟨by unfold I64; omega, by unfold I64; omega⟩, b⟩
    · have tb : (x3 == 0) = false := by simp; omega
      go_wp2_with fail
      refine (c_pick _ _ _ _ _ (by omega) (by omega) r).mono ?_
      clear r
      rintro e w4 ⟨y3, rfl, q, r, c⟩
      have s4 := c.size
      obtain ⟨y30, y31⟩ := q.1 (by omega)
      clear q
      replace b := b.trans (c.below (by omega) (by omega))
      clear c
      go_wp2_with fail
      go_ret2
      exact ⟨_, _, rfl, ⟨by unfold I64; omega, by unfold I64; omega⟩, b⟩
theorem c_DrawSlipEffect (w : World) (v : Value) (k : Nat) (hv : IsBy w w.heap.size v k) :
    Calls Try.prog 29 #[v] w (FourInts w) := by
  go_enter Try.func29, Try.ntmps29
  go_wp2_with fail
  refine (c_l9Open _ _ _ hv).mono ?_
  rintro e w0 ⟨rfl, r, b, sz⟩
  clear hv
  go_wp2_with fail
  refine (c_l4Turn _ _ _ _ (by omega) r).mono ?_
  clear r
  rintro e wt ⟨x1, x2, x3, rfl, ⟨i1, i2, i3⟩, r, c⟩
  have st := c.size
  replace b := b.trans (c.below (by omega) (by omega))
  clear c
  go_wp2_with fail
  refine (c_pick _ _ _ _ _ (by omega) (by omega) r).mono ?_
  clear r
  rintro e w1 ⟨x4, rfl, q, r, c⟩
  have s1 := c.size
  obtain ⟨x40, x41⟩ := q.1 (by omega)
  clear q
  replace b := b.trans (c.below (by omega) (by omega))
  clear c
  by_cases h2 : x4 = 0
  · subst h2
    go_wp2_with fail
    refine (c_numLit _ _ _ _ _ [(-1), 60, 61] rfl (by intro x hx; simp at hx; omega) (by omega) (by simp) (by simp) _ rfl r).mono ?_
    clear r
    rintro e w2 ⟨y4, rfl, y4q, r, c⟩
    have s2 := c.size
    simp only [List.mem_cons, List.not_mem_nil, or_false] at y4q
    replace b := b.trans (c.below (by omega) (by omega))
    clear c
    go_wp2_with fail
    (try simp only [Exit.inBlock, Exit.then])
    refine bodyPost_ret (v := .tuple #[.int .i64 x1, .int .i64 x2, .int .i64 x3, .int .i64 y4]) (by simp [results, Try.results29, go_sem]) rfl ?_
    exact ⟨_, _, _, _, rfl, ⟨i1, i2, i3, by unfold I64; omega⟩, b⟩
  · have ta : (x4 == 0) = false := by simp; omega
    go_wp2_with fail
    refine (c_pick _ _ _ _ _ (by omega) (by omega) r).mono ?_
    clear r
    rintro e w2 ⟨y4, rfl, q, r, c⟩
    have s2 := c.size
    obtain ⟨y40, y41⟩ := q.1 (by omega)
    clear q
    replace b := b.trans (c.below (by omega) (by omega))
    clear c
    go_wp2_with fail
    (try simp only [Exit.inBlock, Exit.then])
    refine bodyPost_ret (v := .tuple #[.int .i64 x1, .int .i64 x2, .int .i64 x3, .int .i64 y4]) (by simp [results, Try.results29, go_sem]) rfl ?_
    exact ⟨_, _, _, _, rfl, ⟨i1, i2, i3, by unfold I64; omega⟩, b⟩
end Go.Proofs.Ytgdekefpglhoeaa
