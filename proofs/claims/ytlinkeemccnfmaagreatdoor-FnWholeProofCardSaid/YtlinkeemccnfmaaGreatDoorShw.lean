/- What is proved here: those statements of Shw that this claim needs. -/
import Derived.Test.YtlinkeemccnfmaaGreatDoorClmM
set_option linter.unusedVariables false
set_option linter.unusedSimpArgs false
namespace Go.Proofs.YtlinkeemccnfmaaGreatDoor
open Go.RowKit
theorem mk_bytes (n : Nat) (hn : n ≤ 1099511627776) (W : World) :
    (Instr.makeSlice 22 (.int .i64 n) (.int .i64 n)).run Tryz.prog W = .ok (.slice (some ⟨W.heap.size, 0, none⟩) n n) (W.alloc (.cells (madeCells #[.int .u8 0] n) 5)) := by
  obtain ⟨i0, hi, hz0, hz1, hz2⟩ := info_parts (show (Tryz.prog.info? 5).map (fun i => (i.zero, i.size, i.bytes)) = some (some (.int .u8 0), 1, 1) by kernel_rfl)
  have h := run_make (P := Tryz.prog) W 22 5 i0 _ Tryz.underlying22 hi hz0 .i64 .i64 n n (by omega) (by omega) (by rw [hz2]; omega) (by omega)
  simpa [hz1, Value.cells] using h
theorem dgE_eq {v X : Int} {wd q : Nat} (hq : q < wd) (hX : X = v / ten (wd - (q + 1))) : dgE v wd q = 48 + X % 10 := by
  rw [dgE, hX, show wd - 1 - q = wd - (q + 1) by omega]
theorem sh_next {v X : Int} {wd q : Nat} (hq : q < wd) (hX : X = v / ten (wd - (q + 1))) : X / 10 = v / ten (wd - q) := by
  have hp := ten_pos (wd - (q + 1))
  rw [hX, show wd - q = (wd - (q + 1)) + 1 by omega, ten_succ, Int.ediv_ediv_of_nonneg (by omega)]
theorem sh_bd {v : Int} {k : Nat} (h0 : 0 ≤ v) : 0 ≤ v / ten k ∧ v / ten k ≤ v := by
  have hp := ten_pos k
  exact ⟨Int.ediv_nonneg h0 (by omega), Int.ediv_le_self _ h0⟩
def RetS (w : World) (s : ByteArray) (e : Ending) (w' : World) : Prop := e = .returned (.string s) ∧ Below w.heap.size w w'
theorem c_showNumber (v : Int) (wd : Nat) (w : World) (h0 : 0 ≤ v) (h1 : v ≤ 1000000000000000000) (hw : wd ≤ 1000000) :
    Calls Tryz.prog 39 #[.int .i64 v, .int .i64 wd] w (RetS w (shB v wd)) := by
  have hmk := mk_bytes wd (by omega)
  have HMS := hid (show (madeCells #[Value.int .u8 0] wd).size = wd by rw [size_madeCells] <;> rfl)
  generalize madeCells #[Value.int .u8 0] wd = mc at *
  go_enter Tryz.func39, Tryz.ntmps39
  go_wp2
  go_loopw [0, 6] (fun x i wr => ∃ (r : Nat) (X : Int) (cur : Array Value), r ≤ wd ∧ i = .int .i64 ((r : Int) - 1) ∧ x = .int .i64 X ∧ Hid (X = v / ten (wd - r)) ∧ Hid (wr.heap[w.heap.size]? = some (.cells cur 5 (0, 0))) ∧ Hid (cur.size = wd) ∧ Hid (∀ k, r ≤ k → k < wd → cur[k]? = some (.int .u8 (dgE v wd k))) ∧ Below w.heap.size w wr) (fun _ i _ => (intOf i + 1).toNat)
  case atStart => exact ⟨wd, v, mc, Nat.le_refl _, rfl, rfl, by show _ = _; simp [ten], heap_alloc_new w _, HMS, fun k h1 h2 => by omega, RetRow.e1 _ _⟩
  case round =>
    obtain ⟨r, X, cur, hr, rfl, rfl, HX, HG, HS, HC, hbel⟩ := hrel
    clear hmk
    have hXb := sh_bd (v := v) (k := wd - r) h0
    rw [← HX.out] at hXb
    obtain ⟨X0, X1⟩ := hXb
    by_cases hlt : 0 < r
    · obtain ⟨q, rfl⟩ : ∃ q, r = q + 1 := ⟨r - 1, by omega⟩
      rw [show (((q + 1 : Nat) : Int) - 1) = (q : Int) by omega]
      have hs3 : q < cur.size := by rw [HS.out]; omega
      have c0 : wr.cell? ⟨w.heap.size, q, none⟩ = some (cur[q]'hs3) := by rw [row_cell HG.out, Array.getElem?_eq_getElem hs3]
      have f0 := row_free HG.out q
      have q0 : (0 : Int) ≤ (q : Int) := by omega
      have q1 : (q : Int) < wd := by omega
      have HD := hid (dgE_eq (show q < wd by omega) HX.out)
      have HN := hid (sh_next (show q < wd by omega) HX.out)
      have k5 : IntKind.u8.wrap (48 + X % 10) = 48 + X % 10 := IntWalk.u8_in _ (by omega)
      go_wp2
      go_roundw
      case rel =>
        refine ⟨q, X / 10, _, by omega, by go_num, rfl, HN.out, row_set HG.out _ _, by show _ = _; simpa using HS.out, fun k hk1 hk2 => ?_, hbel.setCell (p := ⟨w.heap.size, q, none⟩) (Nat.le_refl _) _⟩
        by_cases e : k = q
        · subst e; rw [Array.getElem?_setIfInBounds, if_pos rfl, if_pos hs3, HD.out]
        · rw [Array.getElem?_setIfInBounds, if_neg (by omega)]; exact HC.out k (by omega) hk2
      case measure => simp [intOf]
    · obtain rfl : r = 0 := by omega
      have hcv := run_convert_bytes_arg wr 22 5 Tryz.underlying22 Tryz.underlying5 w.heap.size 0 wd wd (shL v wd) (shL_len v wd) (fun i hi => by
        rw [Nat.zero_add, row_cell HG.out, HC.out i (Nat.zero_le _) hi]
        show some (Value.int .u8 (dgE v wd i)) = some (.int .u8 (el (shL v wd) i))
        rw [shL_el hi]) 9 Tryz.underlying9
      go_wp2
      go_ret
      exact ⟨rfl, hbel⟩
theorem c_l1Show (n : Int) (wd : Nat) (w : World) (h0 : -1000000000000000000 ≤ n) (h1 : n ≤ 1000000000000000000) (hw : wd ≤ 12) :
    Calls Tryz.prog 65 #[.int .i64 n, .int .i64 wd] w (RetS w (shB (md n (ten wd)) wd)) := by
  have hmk := mk_bytes wd (by omega)
  have HMS := hid (show (madeCells #[Value.int .u8 0] wd).size = wd by rw [size_madeCells] <;> rfl)
  generalize madeCells #[Value.int .u8 0] wd = mc at *
  have HT := hid (fun w' => c_l1Ten wd w' (by omega))
  have hp := ten_pos wd
  have hp2 := ten12 hw
  have hb := tmod_bd n (show 0 < ten wd by omega)
  have HMD := hid (md_rest (n := n) (show 0 < ten wd by omega))
  have hvb := md_nonneg n (show 0 < ten wd by omega)
  have hvl := md_lt n (show 0 < ten wd by omega)
  obtain ⟨v, hv⟩ : ∃ v, md n (ten wd) = v := ⟨_, rfl⟩
  rw [hv] at hvb hvl ⊢
  have HV := hid hv
  have HMV := hid (show (n.tmod (ten wd) + ten wd) % ten wd = v by rw [← hv, HMD.out]; exact (Int.tmod_eq_emod_of_nonneg (by omega)).symm)
  have hmv := HMV.out
  obtain ⟨hb1, hb2⟩ := hb
  have h0 : 0 ≤ v := hvb
  clear hv
  have hT0 : (ten wd == 0) = false := by simp; omega
  have k1 : IntKind.i64.wrap (n.tmod (ten wd) + ten wd) = n.tmod (ten wd) + ten wd := IntWalk.i64_in _ (by omega)
  go_enter Tryz.func65, Tryz.ntmps65
  go_wp2_with fail
  go_quiet ((go_at_call 80; exact cq (HT.out _)))
  go_wp2
  go_loopw [0, 6] (fun x i wr => ∃ (r : Nat) (X : Int) (cur : Array Value), r ≤ wd ∧ i = .int .i64 ((r : Int) - 1) ∧ x = .int .i64 X ∧ Hid (X = v / ten (wd - r)) ∧ Hid (wr.heap[w.heap.size]? = some (.cells cur 5 (0, 0))) ∧ Hid (cur.size = wd) ∧ Hid (∀ k, r ≤ k → k < wd → cur[k]? = some (.int .u8 (dgE v wd k))) ∧ Below w.heap.size w wr) (fun _ i _ => (intOf i + 1).toNat)
  case atStart => exact ⟨wd, v, mc, Nat.le_refl _, rfl, by rw [HMV.out], by show _ = _; simp [ten], heap_alloc_new (w.drewN nq) _, HMS, fun k h1 h2 => by omega, (bel_drewN (Below.refl w.heap.size w) nq).alloc (Nat.le_refl _) _⟩
  case round =>
    obtain ⟨r, X, cur, hr, rfl, rfl, HX, HG, HS, HC, hbel⟩ := hrel
    clear hmk
    have hXb := sh_bd (v := v) (k := wd - r) h0
    rw [← HX.out] at hXb
    obtain ⟨X0, X1⟩ := hXb
    by_cases hlt : 0 < r
    · obtain ⟨q, rfl⟩ : ∃ q, r = q + 1 := ⟨r - 1, by omega⟩
      rw [show (((q + 1 : Nat) : Int) - 1) = (q : Int) by omega]
      have hs3 : q < cur.size := by rw [HS.out]; omega
      have c0 : wr.cell? ⟨w.heap.size, q, none⟩ = some (cur[q]'hs3) := by rw [row_cell HG.out, Array.getElem?_eq_getElem hs3]
      have f0 := row_free HG.out q
      have q0 : (0 : Int) ≤ (q : Int) := by omega
      have q1 : (q : Int) < wd := by omega
      have HD := hid (dgE_eq (show q < wd by omega) HX.out)
      have HN := hid (sh_next (show q < wd by omega) HX.out)
      have k5 : IntKind.u8.wrap (48 + X % 10) = 48 + X % 10 := IntWalk.u8_in _ (by omega)
      go_wp2
      go_roundw
      case rel =>
        refine ⟨q, X / 10, _, by omega, by go_num, rfl, HN.out, row_set HG.out _ _, by show _ = _; simpa using HS.out, fun k hk1 hk2 => ?_, hbel.setCell (p := ⟨w.heap.size, q, none⟩) (Nat.le_refl _) _⟩
        by_cases e : k = q
        · subst e; rw [Array.getElem?_setIfInBounds, if_pos rfl, if_pos hs3, HD.out]
        · rw [Array.getElem?_setIfInBounds, if_neg (by omega)]; exact HC.out k (by omega) hk2
      case measure => simp [intOf]
    · obtain rfl : r = 0 := by omega
      have hcv := run_convert_bytes_arg wr 22 5 Tryz.underlying22 Tryz.underlying5 w.heap.size 0 wd wd (shL v wd) (shL_len v wd) (fun i hi => by
        rw [Nat.zero_add, row_cell HG.out, HC.out i (Nat.zero_le _) hi]
        show some (Value.int .u8 (dgE v wd i)) = some (.int .u8 (el (shL v wd) i))
        rw [shL_el hi]) 9 Tryz.underlying9
      go_wp2
      go_ret
      exact ⟨rfl, hbel⟩
end Go.Proofs.YtlinkeemccnfmaaGreatDoor
