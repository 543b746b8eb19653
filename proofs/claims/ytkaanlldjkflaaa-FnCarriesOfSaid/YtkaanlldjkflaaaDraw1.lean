/- What is proved here: the contracts of l4Turn, DrawErrorPattern and DrawSlipEffect. -/
import Derived.Test.YtkaanlldjkflaaaDraw0
set_option linter.unusedVariables false
set_option linter.unusedSimpArgs false
namespace Go.Proofs.Ytkaanlldjkflaaa
open Go.RowKit

/-- Three numbers, whatever they are, drawn from the reader. -/
def Drew3 (w : World) (B g L : Nat) (e : Ending) (w' : World) : Prop :=
  ∃ x y z : Int, e = .returned (.tuple #[.int .i64 x, .int .i64 y, .int .i64 z]) ∧ (I64 x ∧ I64 y ∧ I64 z) ∧ Rd w' B g L ∧ Chg g (g + 1) w w'
/-- What is left by a call that answers four numbers, whatever they are. -/
def FourInts (w : World) (e : Ending) (w' : World) : Prop := ∃ x y z u : Int, e = .returned (.tuple #[.int .i64 x, .int .i64 y, .int .i64 z, .int .i64 u]) ∧ (I64 x ∧ I64 y ∧ I64 z ∧ I64 u) ∧ Below w.heap.size w w'
theorem c_l4Turn (w : World) (B g L : Nat) (hL : L ≤ 100000) (r : Rd w B g L) :
    Calls Try.prog 56 #[.pointer (some ⟨g, 0, none⟩)] w (Drew3 w B g (L + 5)) := by
  have cc : Chg g (g + 1) w w := Chg.refl _ _ _
  have hsz := r.lt
  go_enter Try.func56, Try.ntmps56
  go_wp2_with fail
  refine (c_pick _ _ _ _ _ (by omega) (by omega) r).mono ?_
  clear r
  rintro e w1 ⟨x1, rfl, q, r, c⟩
  have s1 := c.size
  obtain ⟨x10, x11⟩ := q.1 (by omega)
  clear q
  replace cc := cc.trans c
  clear c
  go_wp2_with fail
  refine (c_pick _ _ _ _ _ (by omega) (by omega) r).mono ?_
  clear r
  rintro e w2 ⟨x2, rfl, q, r, c⟩
  have s2 := c.size
  obtain ⟨x20, x21⟩ := q.1 (by omega)
  clear q
  replace cc := cc.trans c
  clear c
  go_wp2_with fail
  refine (c_pick _ _ _ _ _ (by omega) (by omega) r).mono ?_
  clear r
  rintro e w3 ⟨x3, rfl, q, r, c⟩
  have s3 := c.size
  obtain ⟨x30, x31⟩ := q.1 (by omega)
  clear q
  replace cc := cc.trans c
  clear c
  go_wp2_with fail
  refine (c_pick _ _ _ _ _ (by omega) (by omega) r).mono ?_
  clear r
  rintro e w4 ⟨x4, rfl, q, r, c⟩
  have s4 := c.size
  obtain ⟨x40, x41⟩ := q.1 (by omega)
  clear q
  replace cc := cc.trans c
  clear c
  rcases (by omega : x4 = 0 ∨ x4 = 1 ∨ x4 = 2 ∨ 3 ≤ x4) with h | h | h | h
  · subst h
    go_wp2_with fail
    refine (c_numLit _ _ _ _ _ [(-1), 6, 7] rfl (by intro x hx; simp at hx; omega) (by omega) (by simp) (by simp) _ rfl r).mono ?_
    clear r
    rintro e w5 ⟨y, rfl, yq, r, c⟩
    have s5 := c.size
    simp only [List.mem_cons, List.not_mem_nil, or_false] at yq
    replace cc := cc.trans c
    clear c
    go_wp2_with fail
    go_ret3
    exact ⟨_, _, _, rfl, ⟨by unfold I64; omega, by unfold I64; omega, by unfold I64; omega⟩, r.up (by omega), cc⟩
  · subst h
    go_wp2_with fail
    refine (c_numLit _ _ _ _ _ [(-1), 59, 60] rfl (by intro x hx; simp at hx; omega) (by omega) (by simp) (by simp) _ rfl r).mono ?_
    clear r
    rintro e w5 ⟨y, rfl, yq, r, c⟩
    have s5 := c.size
    simp only [List.mem_cons, List.not_mem_nil, or_false] at yq
    replace cc := cc.trans c
    clear c
    go_wp2_with fail
    go_ret3
    exact ⟨_, _, _, rfl, ⟨by unfold I64; omega, by unfold I64; omega, by unfold I64; omega⟩, r.up (by omega), cc⟩
  · subst h
    go_wp2_with fail
    refine (c_numLit _ _ _ _ _ [100000, 100001, (-9223372036854775808)] rfl (by intro x hx; simp at hx; omega) (by omega) (by simp) (by simp) _ rfl r).mono ?_
    clear r
    rintro e w5 ⟨y, rfl, yq, r, c⟩
    have s5 := c.size
    simp only [List.mem_cons, List.not_mem_nil, or_false] at yq
    replace cc := cc.trans c
    clear c
    go_wp2_with fail
    go_ret3
    exact ⟨_, _, _, rfl, ⟨by unfold I64; omega, by unfold I64; omega, by unfold I64; omega⟩, r.up (by omega), cc⟩
  · have t0 : (x4 == 0) = false := by simp; omega
    have t1 : (x4 == 1) = false := by simp; omega
    have t2 : (x4 == 2) = false := by simp; omega
    go_wp2_with fail
    go_ret3
    exact ⟨_, _, _, rfl, ⟨by unfold I64; omega, by unfold I64; omega, by unfold I64; omega⟩, r.up (by omega), cc⟩
end Go.Proofs.Ytkaanlldjkflaaa
