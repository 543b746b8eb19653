/- What is proved here: engines after many turns, engines that are drawn for ChangeWheels, and the comparison of two engines. -/
import Derived.Test.YtkaanlldjkflaaaDoorDrE4
set_option linter.unusedVariables false
set_option linter.unusedSimpArgs false
set_option maxRecDepth 100000
namespace Go.Proofs.YtkaanlldjkflaaaDoor
open Go.RowKit

/-- Columns after n turns. -/
def tuK (cs : List ByteArray) : Nat → List ByteArray
  | 0 => cs
  | n + 1 => tuN (tuK cs n)
theorem tuK_len (cs : List ByteArray) : ∀ n, (tuK cs n).length = cs.length := by
  intro n
  induction n with
  | zero => rfl
  | succ n ih => rw [tuK, tuN_len, ih]
theorem EGV_tuK {cs : List ByteArray} (h : EGV cs = true) : ∀ n, EGV (tuK cs n) = true := by
  intro n
  induction n with
  | zero => exact h
  | succ n ih => rw [tuK]; exact EGV_tuN ih
theorem bodyPost_engB {fn : Func} {p u : Tmp} (h : fn.results = #[.cell p 25, .tmp u]) {a : Act} {w' : World} {g : Nat} {v ok : Value} {Q : Ending → World → Prop}
    (hd : a.defers = []) (hp : a.tmps.getD p undef = .pointer (some ⟨g, 0, none⟩)) (hu : a.tmps.getD u undef = ok) (hg : w'.heap[g]? = some (.cells #[v] 25 (0, 0)))
    (hq : Q (.returned (.tuple #[.agg #[v], ok])) w') : bodyPost Tryd.prog fn Q .ret a w' := by
  refine bodyPost_ret (v := .tuple #[.agg #[v], ok]) ?_ hd hq
  rw [results_cell_tmp h, hp, hu]
  simp [asAddr, Result.andThen, run_loadVar_row (P := Tryd.prog) w' g 25 25 #[v] (0, 0) _ hg Tryd.underlying25 rfl Tryd.infoEng]
theorem str_ne {a b : ByteArray} (h : ¬ a = b) : (a.toList == b.toList) = false := by
  rw [beq_eq_false_iff_ne]
  intro e
  rw [ByteArray.toList_eq, ByteArray.toList_eq] at e
  apply h
  cases a; cases b
  simp only [ByteArray.mk.injEq] at e ⊢
  exact Array.toList_inj.1 e
theorem deSameE (v u : Value) (cs ds : List ByteArray) (w : World) (hv : IsT w w.heap.size v cs) (hu : IsT w w.heap.size u ds) :
    Calls Tryd.prog 9 #[.agg #[v], .agg #[u]] w fun e w' => e = .returned (.bool (decide (cs = ds))) ∧ Below w.heap.size w w' := by
  have hv0 := hv
  have hu0 := hu
  obtain ⟨av, cv, rfl, hm, hc⟩ := hv
  obtain ⟨au, cu, rfl, hm', hc'⟩ := hu
  unfold maxLen at hm hm'
  have c1 := RetRow.e1 w (.cells #[.slice av cs.length cv] 25)
  have c2 := RetRow.e1 (w.alloc (.cells #[.slice av cs.length cv] 25)) (.cells #[.slice au ds.length cu] 25)
  have hs1 : (w.alloc (.cells #[.slice av cs.length cv] 25)).heap.size = w.heap.size + 1 := by simp
  have e0 := (c2.cell (p := ⟨w.heap.size, 0, none⟩) (show w.heap.size < _ by omega)).trans (eng_cell w (.slice av cs.length cv) 25)
  have e1 := eng_cell (w.alloc (.cells #[.slice av cs.length cv] 25)) (.slice au ds.length cu) 25
  rw [hs1] at e1
  have c3 := c1.trans (c2.mono (by omega))
  have l0 := World.block_lt_of_cell? _ _ e0
  have l1 := World.block_lt_of_cell? _ _ e1
  obtain ⟨wA, hwA⟩ : ∃ x, (w.alloc (.cells #[.slice av cs.length cv] 25)).alloc (.cells #[.slice au ds.length cu] 25) = x := ⟨_, rfl⟩
  rw [hwA] at e0 e1 c3 l0 l1
  have s3 := c3.size
  have HC := hid hc
  have HC' := hid hc'
  clear hc hc' c1 c2 hv0 hu0
  by_cases hl : cs.length = ds.length
  · have HL := hid hl
    have t1 : ((cs.length : Int) != (ds.length : Int)) = false := by rw [hl]; simp
    clear hl
    go_enter Tryd.func9, Tryd.ntmps9
    go_wp2
    go_loopw [5] (fun i wr => ∃ j : Nat, j ≤ cs.length ∧ i = .int .i64 j ∧ Hid (∀ k, k < j → tC cs k = tC ds k) ∧ Chg 0 0 wA wr) (fun i _ => cs.length - (intOf i).toNat)
    case atStart => exact ⟨0, Nat.zero_le _, rfl, fun k hk => by omega, Chg.refl _ _ _⟩
    case round =>
      obtain ⟨j, hj, rfl, HA, cr⟩ := hrel
      have cb := cr.below (B := wA.heap.size) (by omega) (Nat.le_refl _)
      have f0 := (cb.cell (p := ⟨w.heap.size, 0, none⟩) l0).trans e0
      have f1 := (cb.cell (p := ⟨w.heap.size + 1, 0, none⟩) l1).trans e1
      by_cases hlt : j < cs.length
      · obtain ⟨b, off, rfl, hb, g0, -⟩ := HC.out j hlt
        obtain ⟨b', off', rfl, hb', d0, -⟩ := HC'.out j (by rw [← HL.out]; exact hlt)
        have g1 := (c3.cell (p := ⟨b, off + j, none⟩) hb).trans g0
        have d1 := (c3.cell (p := ⟨b', off' + j, none⟩) hb').trans d0
        have g2 := (cb.cell (p := ⟨b, off + j, none⟩) (World.block_lt_of_cell? _ _ g1)).trans g1
        have d2 := (cb.cell (p := ⟨b', off' + j, none⟩) (World.block_lt_of_cell? _ _ d1)).trans d1
        have q0 : 0 ≤ (j : Int) := by omega
        have q1 : (j : Int) < cs.length := by omega
        have q2 : (j : Int) < ds.length := by have := HL.out; omega
        clear g0 d0 g1 d1
        by_cases he : tC cs j = tC ds j
        · have HE := hid he
          rw [← he] at d2
          clear he
          go_wp2_with fail
          go_quiet (fail)
          go_wp2
          go_roundw
          case rel =>
            refine ⟨j + 1, by omega, by go_num, fun k hk => ?_, cr.drewN _⟩
            by_cases e : k = j
            · subst e; exact HE.out
            · exact HA.out k (by omega)
          case measure => simp [intOf]; omega
        · have HN := hid (show decide (cs = ds) = false by simp; rintro rfl; exact he rfl)
          have hb3 : ((tC cs j).toList == (tC ds j).toList) = false := str_ne he
          clear he
          go_wp2_with fail
          go_quiet (fail)
          go_wp2
          go_ret
          exact ⟨by rw [HN.out]; rfl, c3.trans ((bel_drewN cb _).mono s3)⟩
      · obtain rfl : j = cs.length := by omega
        have HY := hid (show decide (cs = ds) = true by
          simp only [decide_eq_true_eq]
          apply List.ext_getElem HL.out
          intro i h1 h2
          have := HA.out i h1
          rw [tC_lt h1, tC_lt h2] at this
          exact this)
        go_wp2
        go_ret
        exact ⟨by rw [HY.out]; rfl, c3.trans (cb.mono s3)⟩
  · have HN := hid (show decide (cs = ds) = false by simp; rintro rfl; exact hl rfl)
    have t1 : ((cs.length : Int) != (ds.length : Int)) = true := by simp; omega
    clear hl
    go_enter Tryd.func9, Tryd.ntmps9
    go_wp2
    go_ret
    exact ⟨by rw [HN.out]; rfl, c3⟩
end Go.Proofs.YtkaanlldjkflaaaDoor
