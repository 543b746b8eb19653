/- What is proved here: those statements of Eof that this claim needs. -/
import Derived.Test.YtlinkeemccnfmaaGreatDoorErrS
import Derived.Test.YtlinkeemccnfmaaGreatDoorDsl
set_option linter.unusedVariables false
set_option linter.unusedSimpArgs false
namespace Go.Proofs.YtlinkeemccnfmaaGreatDoor
open Go.RowKit
def erT (xs ys : List Int) : Nat → List Int
  | 0 => []
  | j + 1 => if el xs j = el ys j then erT xs ys j else erT xs ys j ++ [(j : Int), el ys j, el xs j]
def erF (xs ys : List Int) : List Int := if alike2 xs ys then erT xs ys xs.length else []
def erN (xs ys : List Int) : Nat → Nat
  | 0 => 0
  | j + 1 => if el xs j = el ys j then erN xs ys j else erN xs ys j + 1
theorem erT_len (xs ys : List Int) (j : Nat) : (erT xs ys j).length = erN xs ys j * 3 := by
  induction j with
  | zero => rfl
  | succ j ih => unfold erT erN; split
                 · exact ih
                 · simp [ih]; omega
theorem erN_le (xs ys : List Int) (j : Nat) : erN xs ys j ≤ j := by
  induction j with
  | zero => exact Nat.le_refl _
  | succ j ih => unfold erN; split <;> omega
theorem erT_R {xs ys : List Int} (hx : R64 xs) (hy : R64 ys) (j : Nat) (hj : j ≤ 1000) : R64 (erT xs ys j) := by
  induction j with
  | zero => exact R64.nil
  | succ j ih =>
    unfold erT; split
    · exact ih (by omega)
    · refine (ih (by omega)).append ?_
      intro z hz
      simp only [List.mem_cons, List.not_mem_nil, or_false] at hz
      rcases hz with rfl | rfl | rfl
      · omega
      · exact hy.at j
      · exact hx.at j
theorem erF_yes {xs ys : List Int} (h : alike2 xs ys = true) : erF xs ys = erT xs ys xs.length := by simp [erF, h]
theorem erF_no {xs ys : List Int} (h : alike2 xs ys = false) : erF xs ys = [] := by simp [erF, h]
theorem al_len {xs ys : List Int} (h : alike2 xs ys = true) : TB xs = true ∧ TB ys = true ∧ xs.length = ys.length := by
  simp only [alike2, Bool.and_eq_true, decide_eq_true_eq] at h; exact h
theorem erT_same {xs ys : List Int} {j : Nat} (h : el xs j = el ys j) : erT xs ys (j + 1) = erT xs ys j := by rw [erT, if_pos h]
theorem erT_new {xs ys : List Int} {j : Nat} (h : ¬ el xs j = el ys j) : erT xs ys (j + 1) = erT xs ys j ++ [(j : Int), el ys j, el xs j] := by rw [erT, if_neg h]
theorem erN_same {xs ys : List Int} {j : Nat} (h : el xs j = el ys j) : erN xs ys (j + 1) = erN xs ys j := by rw [erN, if_pos h]
theorem erN_new {xs ys : List Int} {j : Nat} (h : ¬ el xs j = el ys j) : erN xs ys (j + 1) = erN xs ys j + 1 := by rw [erN, if_neg h]

def RetErrB (w : World) (zs : List Int) (b : Bool) (e : Ending) (w' : World) : Prop := ∃ v, e = .returned (.tuple #[v, .bool b]) ∧ RwE w' w.heap.size w'.heap.size v zs ∧ Below w.heap.size w w'
theorem RwE.nil (w : World) (lo hi : Nat) : RwE w lo hi (.slice none 0 0) [] := ⟨0, rfl, OwnE.nil _ _, fun k hk => by simp [Value.ownBlock] at hk, R64.nil⟩

section
variable {P : Program} {ops : Array Oper} {rest : List Oper} {o : Oper} {a : Act} {K : Act → World → Prop} {Q : Exit → Act → World → Prop} {w : World}
theorem step_appE {E : Prop} {x y z : Int} {nd : Nat} (hgd : o.guard = none) (s t : Operand) (T : TypeId)
    (ho : o.op = .call { callee := .builtin .append, args := #[s, t], argTypes := #[T, T] }) (hT : P.underlying T = some (.slice 67))
    (hinf : (P.info? 67).map (fun i => (i.zero, i.size, i.bytes)) = some (some (.agg #[.int .i64 0, .int .i64 0, .int .i64 0]), 3, 24))
    (B : Nat) (v : Value) (n : Nat) (xs : List Int) (hs : a.eval s = v) (hx : a.eval t = .slice (some ⟨w.heap.size, 0, none⟩) 1 1) (hown : OwnE w B v n xs) (hn : n ≤ 1000000000) (hbase : B ≤ w.heap.size)
    (h : ∀ v' w', OwnE w' B v' (n + 1) (xs ++ [x, y, z]) → Below B w w' → K (a.put o.dst v') w') :
    if Region.wanted o (yielded ops a.tmps) = true then Oper.wp P o a ((w.alloc (.cells #[.int .i64 x, .int .i64 y, .int .i64 z] 67)).drewN nd) K Q else E := by
  obtain ⟨i0, hi, hz0, hz1, hz2⟩ := info_parts hinf
  have hw : Region.wanted o (yielded ops a.tmps) = true := by simp [Region.wanted, hgd]
  rw [if_pos hw]
  refine wp_append_own _ s t T ho B 67 i0 _ 3 24 hT hi hz0 hz1 hz2 rfl (by omega) v n (xs.map (Value.int .i64)) hs (World.ownsRow.alloc hown _) ⟨w.heap.size, 0, none⟩ 1 1 [.int .i64 x, .int .i64 y, .int .i64 z] hx rfl ?_ (by simp [Value.oneCell']) ?_ ?_ ?_ ?_
  · intro j u hu
    have hadd : (⟨w.heap.size, 0, none⟩ : Addr).add j = ⟨w.heap.size, j, none⟩ := by unfold Addr.add; split <;> simp_all
    rw [hadd]
    show (w.alloc (.cells #[.int .i64 x, .int .i64 y, .int .i64 z] 67)).cell? ⟨w.heap.size, j, none⟩ = some u
    rw [World.cell?_alloc_at _ _ _ _ rfl]
    simpa using hu
  · unfold maxLen; omega
  · omega
  · simp; omega
  · intro v' w' hown' hg _
    refine h v' w' (by unfold OwnE; simpa using hown') ?_
    exact (((Below.refl _ _).alloc hbase _).trans ⟨hg.os, hg.tape, hg.output, hg.size, fun k hk => hg.block k (by simp; omega) (fun e => by have := (World.ownsRow.lt hown k e.symm).1; omega)⟩)
end
set_option maxHeartbeats 800000 in
theorem c_iErrataOf (w : World) (v : Value) (xs : List Int) (hv : IsI w w.heap.size v xs) (u : Value) (ys : List Int) (hu : IsI w w.heap.size u ys) :
    Calls Tryz.prog 14 #[v, u] w (RetErrB w (erF xs ys) (alike2 xs ys)) := by
  by_cases hA : alike2 xs ys = true
  · have hv0 := hv
    have hu0 := hu
    obtain ⟨hT, hT', hl⟩ := al_len hA
    have h60 := (TB_iff.1 hT).2.1
    rw [erF_yes hA, hA]
    have HA := hid hA
    have HXR := hid hv.range
    have HYR := hid hu.range
    obtain ⟨a, cap, rfl, hm, -, hc⟩ := hv
    obtain ⟨a', cap', rfl, hm', -, hc'⟩ := hu
    unfold maxLen at hm hm'
    generalize hn : xs.length = n at *
    have HN := hid hn
    rw [← hl] at hc' hm' hu0 ⊢
    clear hT hT' hl hn hA
    go_enter Tryz.func14, Tryz.ntmps14
    go_wp2_with fail
    refine (c_tablesAlike _ _ xs ys _ _ _ hv0 hu0).mono ?_
    rw [HA.out]
    rintro e wx ⟨rfl, rfl⟩
    clear hv0 hu0
    go_wp2
    go_loopw [6, 14] (fun v i wr => ∃ j : Nat, j ≤ n ∧ i = .int .i64 j ∧ OwnE wr w.heap.size v (erN xs ys j) (erT xs ys j) ∧ Below w.heap.size w wr) (fun _ i _ => n - (intOf i).toNat)
    case atStart => exact ⟨0, Nat.zero_le _, rfl, OwnE.nil _ _, Below.refl _ _⟩
    case round =>
      obtain ⟨j, hj, rfl, hown, hbel⟩ := hrel
      have hsz := hbel.size
      have hNj := erN_le xs ys j
      by_cases hlt : j < n
      · obtain ⟨b, off, rfl, hb, hcell⟩ := hc j hlt
        obtain ⟨b', off', rfl, hb', hcell'⟩ := hc' j hlt
        have g0 := (hbel.cell (p := ⟨b, off + j, none⟩) hb).trans (hcell j hlt)
        have d0 := (hbel.cell (p := ⟨b', off' + j, none⟩) hb').trans (hcell' j hlt)
        have q0 : 0 ≤ (j : Int) := by omega
        have q1 : (j : Int) < n := by omega
        clear hc hc' hcell hcell'
        by_cases he : el xs j = el ys j
        · have k1 : (el xs j != el ys j) = false := by simpa using he
          have HE := hid (erT_same he)
          have HEN := hid (erN_same he)
          clear he
          go_wp2_with fail
          go_quiet (fail)
          go_wp2
          go_roundw
          case rel => exact ⟨j + 1, by omega, by go_num, by rw [HE.out, HEN.out]; exact hown, bel_drewN hbel _⟩
          case measure => simp [intOf]; omega
        · have k1 : (el xs j != el ys j) = true := by simpa using he
          have HE := hid (erT_new he)
          have HEN := hid (erN_new he)
          clear he
          go_wp2_with fail
          go_quiet (fail)
          go_wp2_with fail
          go_region_held3 (fun w' => w'.cell? ⟨b, off + j, none⟩ = some (.int .i64 (el xs j)) ∧ w'.cell? ⟨b', off' + j, none⟩ = some (.int .i64 (el ys j)))
            (first | go_keep | exact ⟨(hb1.cell (p := ⟨b, off + j, none⟩) hb).trans g0, (hb1.cell (p := ⟨b', off' + j, none⟩) hb').trans d0⟩)
            (first | (refine step_appE rfl _ _ _ rfl Tryz.underlying39 Tryz.infoErr w.heap.size _ _ _ rfl rfl hown (by omega) hsz ?_; intro v1 w1 hown1 hb1))
          go_wp2
          go_roundw
          case rel => exact ⟨j + 1, by omega, by go_num, by rw [HE.out, HEN.out]; exact hown1, hbel.trans hb1⟩
          case measure => simp [intOf]; omega
      · obtain rfl : j = n := by omega
        clear hc hc'
        go_wp2
        go_ret2
        exact ⟨_, rfl, hown.rw (erT_len _ _ _) (erT_R HXR.out HYR.out _ (by omega)) (Nat.le_refl _), hbel⟩
  · have hA2 : alike2 xs ys = false := by simpa using hA
    rw [erF_no hA2, hA2]
    clear hA
    go_enter Tryz.func14, Tryz.ntmps14
    go_wp2_with fail
    refine (c_tablesAlike _ _ xs ys _ _ _ hv hu).mono ?_
    rw [hA2]
    rintro e wx ⟨rfl, rfl⟩
    go_wp2
    go_ret2
    exact ⟨_, rfl, RwE.nil _ _ _, Below.refl _ _⟩
end Go.Proofs.YtlinkeemccnfmaaGreatDoor
