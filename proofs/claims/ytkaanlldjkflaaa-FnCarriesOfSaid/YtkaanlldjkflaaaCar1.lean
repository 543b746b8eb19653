/- What is proved here: contracts of TurnWheels and WarnedWheels (impl and spec), and of the tests that marks fit a column. -/
import Derived.Test.YtkaanlldjkflaaaCarM
import Derived.Test.YtkaanlldjkflaaaVal
import Derived.Test.YtkaanlldjkflaaaLtd
set_option linter.unusedVariables false
set_option linter.unusedSimpArgs false
set_option maxRecDepth 100000
namespace Go.Proofs.Ytkaanlldjkflaaa
open Go.RowKit

theorem c_l1Pair (a b : ByteArray) (ha : CV a = true) (hb : CV b = true) (hs : a.size = b.size) (w : World) :
    Calls Try.prog 94 #[.string a, .string b] w fun e w' => e = .returned (.bool true) ∧ w = w' := by
  have hz := (CV_iff.1 ha).1.2
  have hz2 := (CV_iff.1 hb).1.2
  have HA := hid ha
  have HB := hid hb
  have t1 : ((a.size : Int) == (b.size : Int)) = true := by rw [hs]; simp
  clear ha hb
  go_enter Try.func94, Try.ntmps94
  go_wp2_with fail
  refine (c_sColumnValid a (by unfold maxLen; omega) _).mono ?_
  rw [HA.out]
  rintro e wx ⟨rfl, rfl⟩
  go_wp2_with fail
  refine (c_sColumnValid b (by unfold maxLen; omega) _).mono ?_
  rw [HB.out]
  rintro e wx ⟨rfl, rfl⟩
  go_wp2
  go_ret
  exact ⟨by simp [t1], rfl⟩
set_option maxHeartbeats 1600000 in
theorem c_iTurnWheels (a b : ByteArray) (ha : CV a = true) (hb : CV b = true) (hs : a.size = b.size) (w : World) :
    Calls Try.prog 63 #[.string a, .string b] w fun e w' => e = .returned (.tuple #[.string (twB a b), .bool true]) ∧ Below w.heap.size w w' := by
  obtain ⟨⟨z1, z2⟩, hda⟩ := CV_iff.1 ha
  obtain ⟨⟨y1, y2⟩, hdb⟩ := CV_iff.1 hb
  have HDA := hid hda
  have HDB := hid hdb
  have HAL := hid (alk_iff.2 ⟨ha, hb, hs⟩)
  have HAL2 := hid hs
  have HCA := hid ha
  have HCB := hid hb
  have hmk := mk_bytes a.size (by omega)
  have HMS := hid (show (madeCells #[Value.int .u8 0] a.size).size = a.size by rw [size_madeCells] <;> rfl)
  generalize madeCells #[Value.int .u8 0] a.size = mc at *
  clear hda hdb ha hb hs
  go_enter Try.func63, Try.ntmps63
  go_wp2_with fail
  refine (c_alike a b (by unfold maxLen; omega) (by unfold maxLen; omega) _).mono ?_
  rw [HAL.out]
  rintro e wx ⟨rfl, rfl⟩
  go_wp2
  go_loopw [17] (fun i wr => ∃ (j : Nat) (cur : Array Value), j ≤ a.size ∧ i = .int .i64 j ∧ Hid (wr.heap[w.heap.size]? = some (.cells cur 5 (0, 0))) ∧ Hid (cur.size = a.size) ∧ Hid (∀ k, k < j → cur[k]? = some (.int .u8 (el (twL a b) k))) ∧ Below w.heap.size w wr) (fun i _ => a.size - (intOf i).toNat)
  case atStart => exact ⟨0, mc, Nat.zero_le _, rfl, heap_alloc_new _ _, HMS, fun k hk => by omega, (Below.refl w.heap.size w).alloc (Nat.le_refl _) _⟩
  case round =>
    obtain ⟨j, cur, hj, rfl, HG, HS, HC, hbel⟩ := hrel
    clear hmk
    by_cases hlt : j < a.size
    · have hlb : j < b.size := by have := HAL2.out; omega
      have hs3 : j < cur.size := by rw [HS.out]; omega
      have hgl := (Array.getElem?_eq_some_iff.1 HG.out).1
      have q0 : (0 : Int) ≤ (j : Int) := by omega
      have q1 : (j : Int) < a.size := by omega
      have q2 : (j : Int) < b.size := by omega
      have d1 := HDA.out j hlt
      have d2 := HDB.out j hlb
      rw [bN_eq hlt] at d1
      rw [bN_eq hlb] at d2
      have HE := hid (twL_el (a := a) (b := b) hlt)
      rw [bN_eq hlt, bN_eq hlb] at HE
      obtain ⟨d10, d11⟩ := d1
      obtain ⟨d20, d21⟩ := d2
      have k1 : IntKind.u8.wrap (((a[j]'hlt).toNat : Int) - 48) = ((a[j]'hlt).toNat : Int) - 48 := IntWalk.u8_in _ (by omega)
      have k2 : IntKind.u8.wrap (((a[j]'hlt).toNat : Int) - 48 + ((b[j]'hlb).toNat : Int)) = ((a[j]'hlt).toNat : Int) - 48 + ((b[j]'hlb).toNat : Int) := IntWalk.u8_in _ (by omega)
      have k3 : IntKind.u8.wrap (((a[j]'hlt).toNat : Int) - 48 + ((b[j]'hlb).toNat : Int) - 48) = ((a[j]'hlt).toNat : Int) - 48 + ((b[j]'hlb).toNat : Int) - 48 := IntWalk.u8_in _ (by omega)
      have k4 : (((a[j]'hlt).toNat : Int) - 48 + ((b[j]'hlb).toNat : Int) - 48).tmod 10 = (((a[j]'hlt).toNat : Int) - 48 + (((b[j]'hlb).toNat : Int) - 48)) % 10 := by rw [Int.tmod_eq_emod_of_nonneg (by omega)]; congr 1; omega
      have k5 : IntKind.u8.wrap ((((a[j]'hlt).toNat : Int) - 48 + (((b[j]'hlb).toNat : Int) - 48)) % 10) = (((a[j]'hlt).toNat : Int) - 48 + (((b[j]'hlb).toNat : Int) - 48)) % 10 := IntWalk.u8_in _ (by omega)
      have k6 : IntKind.u8.wrap (48 + (((a[j]'hlt).toNat : Int) - 48 + (((b[j]'hlb).toNat : Int) - 48)) % 10) = 48 + (((a[j]'hlt).toNat : Int) - 48 + (((b[j]'hlb).toNat : Int) - 48)) % 10 := IntWalk.u8_in _ (by omega)
      go_wp2_with fail
      have c0 : wr.drew.cell? ⟨w.heap.size, j, none⟩ = some (cur[j]'hs3) := by show wr.cell? _ = _; rw [row_cell HG.out, Array.getElem?_eq_getElem hs3]
      have f0 : wr.drew.frozen? ⟨w.heap.size, j, none⟩ = false := row_free HG.out j
      refine regionL (m := 14) (S := fun _ => True) (by kernel_rfl) ?_ (fun hHeld => ?_)
      focus (exact trivial)
      refine takeL (m := 14) (i := 0) (d := some 20) (v := ?_) rfl rfl rfl (by kernel_rfl) (by decide) (by kernel_rfl) ?_ _ _ _ _ (by kernel_rfl) (by kernel_rfl) (Or.inl ⟨by rfl, ?_⟩) (by assumption) ?_
      rotate_left
      exact fun _ _ _ h => h
      focus (intro w hSw; (try dsimp only at hSw); go_simp; (try with_reducible rfl); done)
      (try simp only [Act.put, List.setIfInBounds_toArray, List.set_cons_zero, List.set_cons_succ])
      refine takeL (m := 14) (i := 1) (d := some 21) (v := ?_) rfl rfl rfl (by kernel_rfl) (by decide) (by kernel_rfl) ?_ _ _ _ _ (by kernel_rfl) (by kernel_rfl) (Or.inl ⟨by rfl, ?_⟩) (by assumption) ?_
      rotate_left
      exact fun _ _ _ h => h
      focus (intro w hSw; (try dsimp only at hSw); go_simp; (try with_reducible rfl); done)
      (try simp only [Act.put, List.setIfInBounds_toArray, List.set_cons_zero, List.set_cons_succ])
      refine takeL (m := 14) (i := 2) (d := some 22) (v := ?_) rfl rfl rfl (by kernel_rfl) (by decide) (by kernel_rfl) ?_ _ _ _ _ (by kernel_rfl) (by kernel_rfl) (Or.inl ⟨by rfl, ?_⟩) (by assumption) ?_
      rotate_left
      exact fun _ _ _ h => h
      focus (intro w hSw; (try dsimp only at hSw); go_simp; (try with_reducible rfl); done)
      (try simp only [Act.put, List.setIfInBounds_toArray, List.set_cons_zero, List.set_cons_succ])
      refine takeL (m := 14) (i := 3) (d := some 23) (v := ?_) rfl rfl rfl (by kernel_rfl) (by decide) (by kernel_rfl) ?_ _ _ _ _ (by kernel_rfl) (by kernel_rfl) (Or.inl ⟨by rfl, ?_⟩) (by assumption) ?_
      rotate_left
      exact fun _ _ _ h => h
      focus (intro w hSw; (try dsimp only at hSw); go_simp; (try with_reducible rfl); done)
      (try simp only [Act.put, List.setIfInBounds_toArray, List.set_cons_zero, List.set_cons_succ])
      refine takeL (m := 14) (i := 4) (d := some 24) (v := ?_) rfl rfl rfl (by kernel_rfl) (by decide) (by kernel_rfl) ?_ _ _ _ _ (by kernel_rfl) (by kernel_rfl) (Or.inl ⟨by rfl, ?_⟩) (by assumption) ?_
      rotate_left
      exact fun _ _ _ h => h
      focus (intro w hSw; (try dsimp only at hSw); go_simp; (try with_reducible rfl); done)
      (try simp only [Act.put, List.setIfInBounds_toArray, List.set_cons_zero, List.set_cons_succ])
      refine takeL (m := 14) (i := 5) (d := some 25) (v := ?_) rfl rfl rfl (by kernel_rfl) (by decide) (by kernel_rfl) ?_ _ _ _ _ (by kernel_rfl) (by kernel_rfl) (Or.inl ⟨by rfl, ?_⟩) (by assumption) ?_
      rotate_left
      exact fun _ _ _ h => h
      focus (intro w hSw; (try dsimp only at hSw); go_simp; (try with_reducible rfl); done)
      (try simp only [Act.put, List.setIfInBounds_toArray, List.set_cons_zero, List.set_cons_succ])
      refine takeL (m := 14) (i := 6) (d := some 26) (v := ?_) rfl rfl rfl (by kernel_rfl) (by decide) (by kernel_rfl) ?_ _ _ _ _ (by kernel_rfl) (by kernel_rfl) (Or.inl ⟨by rfl, ?_⟩) (by assumption) ?_
      rotate_left
      exact fun _ _ _ h => h
      focus (intro w hSw; (try dsimp only at hSw); go_simp; (try with_reducible rfl); done)
      (try simp only [Act.put, List.setIfInBounds_toArray, List.set_cons_zero, List.set_cons_succ])
      refine takeL (m := 14) (i := 7) (d := some 27) (v := ?_) rfl rfl rfl (by kernel_rfl) (by decide) (by kernel_rfl) ?_ _ _ _ _ (by kernel_rfl) (by kernel_rfl) (Or.inl ⟨by rfl, ?_⟩) (by assumption) ?_
      rotate_left
      exact fun _ _ _ h => h
      focus (intro w hSw; (try dsimp only at hSw); go_simp; (try with_reducible rfl); done)
      (try simp only [Act.put, List.setIfInBounds_toArray, List.set_cons_zero, List.set_cons_succ])
      refine takeL (m := 14) (i := 8) (d := some 28) (v := ?_) rfl rfl rfl (by kernel_rfl) (by decide) (by kernel_rfl) ?_ _ _ _ _ (by kernel_rfl) (by kernel_rfl) (Or.inl ⟨by rfl, ?_⟩) (by assumption) ?_
      rotate_left
      exact fun _ _ _ h => h
      focus (intro w hSw; (try dsimp only at hSw); go_simp; (try with_reducible rfl); done)
      (try simp only [Act.put, List.setIfInBounds_toArray, List.set_cons_zero, List.set_cons_succ])
      refine takeL (m := 14) (i := 9) (d := some 29) (v := ?_) rfl rfl rfl (by kernel_rfl) (by decide) (by kernel_rfl) ?_ _ _ _ _ (by kernel_rfl) (by kernel_rfl) (Or.inl ⟨by rfl, ?_⟩) (by assumption) ?_
      rotate_left
      exact fun _ _ _ h => h
      focus (intro w hSw; (try dsimp only at hSw); go_simp; (try with_reducible rfl); done)
      (try simp only [Act.put, List.setIfInBounds_toArray, List.set_cons_zero, List.set_cons_succ])
      refine takeL (m := 14) (i := 10) (d := some 30) (v := ?_) rfl rfl rfl (by kernel_rfl) (by decide) (by kernel_rfl) ?_ _ _ _ _ (by kernel_rfl) (by kernel_rfl) (Or.inl ⟨by rfl, ?_⟩) (by assumption) ?_
      rotate_left
      exact fun _ _ _ h => h
      focus (intro w hSw; (try dsimp only at hSw); go_simp; (try with_reducible rfl); done)
      (try simp only [Act.put, List.setIfInBounds_toArray, List.set_cons_zero, List.set_cons_succ])
      refine takeL (m := 14) (i := 11) (d := some 31) (v := ?_) rfl rfl rfl (by kernel_rfl) (by decide) (by kernel_rfl) ?_ _ _ _ _ (by kernel_rfl) (by kernel_rfl) (Or.inl ⟨by rfl, ?_⟩) (by assumption) ?_
      rotate_left
      exact fun _ _ _ h => h
      focus (intro w hSw; (try dsimp only at hSw); go_simp; (try with_reducible rfl); done)
      (try simp only [Act.put, List.setIfInBounds_toArray, List.set_cons_zero, List.set_cons_succ])
      refine takeL (m := 14) (i := 12) (d := some 32) (v := ?_) rfl rfl rfl (by kernel_rfl) (by decide) (by kernel_rfl) ?_ _ _ _ _ (by kernel_rfl) (by kernel_rfl) (Or.inl ⟨by rfl, ?_⟩) (by assumption) ?_
      rotate_left
      exact fun _ _ _ h => h
      focus (intro w hSw; (try dsimp only at hSw); go_simp; (try with_reducible rfl); done)
      (try simp only [Act.put, List.setIfInBounds_toArray, List.set_cons_zero, List.set_cons_succ])
      refine takeL (m := 14) (i := 13) (d := some 33) (v := ?_) rfl rfl rfl (by kernel_rfl) (by decide) (by kernel_rfl) ?_ _ _ _ _ (by kernel_rfl) (by kernel_rfl) (Or.inl ⟨by rfl, ?_⟩) (by assumption) ?_
      rotate_left
      exact fun _ _ _ h => h
      focus (intro w hSw; (try dsimp only at hSw); go_simp; (try with_reducible rfl); done)
      (try simp only [Act.put, List.setIfInBounds_toArray, List.set_cons_zero, List.set_cons_succ])
      refine lastL (by kernel_rfl) rfl (fun K hK => ?_)
      go_simp
      refine hK.out _ _ ?_
      clear hK
      (try simp only [Act.put, List.setIfInBounds_toArray, List.set_cons_zero, List.set_cons_succ])
      refine doneL (by kernel_rfl) ?_
      clear c0 f0
      go_wp2
      go_roundw
      case rel =>
        refine ⟨j + 1, _, by omega, by go_num, row_set (w := wr.drew) HG.out _ _, by show _ = _; simpa using HS.out, fun k hk => ?_, hbel.drew.setCell (p := ⟨w.heap.size, j, none⟩) (Nat.le_refl _) _⟩
        by_cases e : k = j
        · subst e; rw [Array.getElem?_setIfInBounds, if_pos rfl, if_pos hs3, HE.out]
        · rw [Array.getElem?_setIfInBounds, if_neg (by omega)]; exact HC.out k (by omega)
      case measure => simp [intOf]; omega
    · obtain rfl : j = a.size := by omega
      have hcv := run_convert_bytes_arg wr 31 5 Try.underlying31 Try.underlying5 w.heap.size 0 a.size a.size (twL a b) (twL_len a b) (fun i hi => by
        rw [Nat.zero_add, row_cell HG.out, HC.out i hi]
        rfl) 9 Try.underlying9
      go_wp2
      go_ret2
      exact ⟨rfl, hbel⟩
set_option maxHeartbeats 1600000 in
theorem c_sTurnWheels (a b : ByteArray) (ha : CV a = true) (hb : CV b = true) (hs : a.size = b.size) (w : World) :
    Calls Try.prog 82 #[.string a, .string b] w fun e w' => e = .returned (.tuple #[.string (twB a b), .bool true]) ∧ Below w.heap.size w w' := by
  obtain ⟨⟨z1, z2⟩, hda⟩ := CV_iff.1 ha
  obtain ⟨⟨y1, y2⟩, hdb⟩ := CV_iff.1 hb
  have HDA := hid hda
  have HDB := hid hdb
  have HAL := hid (alk_iff.2 ⟨ha, hb, hs⟩)
  have HAL2 := hid hs
  have HCA := hid ha
  have HCB := hid hb
  have hmk := mk_bytes a.size (by omega)
  have HMS := hid (show (madeCells #[Value.int .u8 0] a.size).size = a.size by rw [size_madeCells] <;> rfl)
  generalize madeCells #[Value.int .u8 0] a.size = mc at *
  clear hda hdb ha hb hs
  go_enter Try.func82, Try.ntmps82
  go_wp2_with fail
  refine (c_l1Pair a b HCA.out HCB.out HAL2.out _).mono ?_
  rintro e wx ⟨rfl, rfl⟩
  go_wp2
  go_loopw [7] (fun i wr => ∃ (j : Nat) (cur : Array Value), j ≤ a.size ∧ i = .int .i64 j ∧ Hid (wr.heap[w.heap.size]? = some (.cells cur 5 (0, 0))) ∧ Hid (cur.size = a.size) ∧ Hid (∀ k, k < j → cur[k]? = some (.int .u8 (el (twL a b) k))) ∧ Below w.heap.size w wr) (fun i _ => a.size - (intOf i).toNat)
  case atStart => exact ⟨0, mc, Nat.zero_le _, rfl, heap_alloc_new _ _, HMS, fun k hk => by omega, (Below.refl w.heap.size w).alloc (Nat.le_refl _) _⟩
  case round =>
    obtain ⟨j, cur, hj, rfl, HG, HS, HC, hbel⟩ := hrel
    clear hmk
    by_cases hlt : j < a.size
    · have hlb : j < b.size := by have := HAL2.out; omega
      have hs3 : j < cur.size := by rw [HS.out]; omega
      have hgl := (Array.getElem?_eq_some_iff.1 HG.out).1
      have q0 : (0 : Int) ≤ (j : Int) := by omega
      have q1 : (j : Int) < a.size := by omega
      have q2 : (j : Int) < b.size := by omega
      have d1 := HDA.out j hlt
      have d2 := HDB.out j hlb
      rw [bN_eq hlt] at d1
      rw [bN_eq hlb] at d2
      have HE := hid (twL_el (a := a) (b := b) hlt)
      rw [bN_eq hlt, bN_eq hlb] at HE
      obtain ⟨d10, d11⟩ := d1
      obtain ⟨d20, d21⟩ := d2
      have k1 : IntKind.i64.wrap (((a[j]'hlt).toNat : Int) - 48) = ((a[j]'hlt).toNat : Int) - 48 := IntWalk.i64_in _ (by omega)
      have k2 : IntKind.i64.wrap (((a[j]'hlt).toNat : Int) - 48 + ((b[j]'hlb).toNat : Int)) = ((a[j]'hlt).toNat : Int) - 48 + ((b[j]'hlb).toNat : Int) := IntWalk.i64_in _ (by omega)
      have k3 : IntKind.i64.wrap (((a[j]'hlt).toNat : Int) - 48 + ((b[j]'hlb).toNat : Int) - 48) = ((a[j]'hlt).toNat : Int) - 48 + ((b[j]'hlb).toNat : Int) - 48 := IntWalk.i64_in _ (by omega)
      have k4 : (((a[j]'hlt).toNat : Int) - 48 + ((b[j]'hlb).toNat : Int) - 48).tmod 10 = (((a[j]'hlt).toNat : Int) - 48 + (((b[j]'hlb).toNat : Int) - 48)) % 10 := by rw [Int.tmod_eq_emod_of_nonneg (by omega)]; congr 1; omega
      have k5 : IntKind.i64.wrap (48 + (((a[j]'hlt).toNat : Int) - 48 + (((b[j]'hlb).toNat : Int) - 48)) % 10) = 48 + (((a[j]'hlt).toNat : Int) - 48 + (((b[j]'hlb).toNat : Int) - 48)) % 10 := IntWalk.i64_in _ (by omega)
      have k6 : IntKind.u8.wrap (48 + (((a[j]'hlt).toNat : Int) - 48 + (((b[j]'hlb).toNat : Int) - 48)) % 10) = 48 + (((a[j]'hlt).toNat : Int) - 48 + (((b[j]'hlb).toNat : Int) - 48)) % 10 := IntWalk.u8_in _ (by omega)
      replace HE := hid (HE.out.trans (by rw [show ((a[j]'hlt).toNat : Int) - 48 + (((b[j]'hlb).toNat : Int) - 48) = ((a[j]'hlt).toNat : Int) - 48 + ((b[j]'hlb).toNat : Int) - 48 by omega]))
      go_wp2_with fail
      have c0 : wr.drew.cell? ⟨w.heap.size, j, none⟩ = some (cur[j]'hs3) := by show wr.cell? _ = _; rw [row_cell HG.out, Array.getElem?_eq_getElem hs3]
      have f0 : wr.drew.frozen? ⟨w.heap.size, j, none⟩ = false := row_free HG.out j
      refine regionL (m := 17) (S := fun _ => True) (by kernel_rfl) ?_ (fun hHeld => ?_)
      focus (exact trivial)
      refine takeL (m := 17) (i := 0) (d := some 21) (v := ?_) rfl rfl rfl (by kernel_rfl) (by decide) (by kernel_rfl) ?_ _ _ _ _ (by kernel_rfl) (by kernel_rfl) (Or.inl ⟨by rfl, ?_⟩) (by assumption) ?_
      rotate_left
      exact fun _ _ _ h => h
      focus (intro w hSw; (try dsimp only at hSw); go_simp; (try with_reducible rfl); done)
      (try simp only [Act.put, List.setIfInBounds_toArray, List.set_cons_zero, List.set_cons_succ])
      refine takeL (m := 17) (i := 1) (d := some 22) (v := ?_) rfl rfl rfl (by kernel_rfl) (by decide) (by kernel_rfl) ?_ _ _ _ _ (by kernel_rfl) (by kernel_rfl) (Or.inl ⟨by rfl, ?_⟩) (by assumption) ?_
      rotate_left
      exact fun _ _ _ h => h
      focus (intro w hSw; (try dsimp only at hSw); go_simp; (try with_reducible rfl); done)
      (try simp only [Act.put, List.setIfInBounds_toArray, List.set_cons_zero, List.set_cons_succ])
      refine takeL (m := 17) (i := 2) (d := some 23) (v := ?_) rfl rfl rfl (by kernel_rfl) (by decide) (by kernel_rfl) ?_ _ _ _ _ (by kernel_rfl) (by kernel_rfl) (Or.inl ⟨by rfl, ?_⟩) (by assumption) ?_
      rotate_left
      exact fun _ _ _ h => h
      focus (intro w hSw; (try dsimp only at hSw); go_simp; (try with_reducible rfl); done)
      (try simp only [Act.put, List.setIfInBounds_toArray, List.set_cons_zero, List.set_cons_succ])
      refine takeL (m := 17) (i := 3) (d := some 24) (v := ?_) rfl rfl rfl (by kernel_rfl) (by decide) (by kernel_rfl) ?_ _ _ _ _ (by kernel_rfl) (by kernel_rfl) (Or.inl ⟨by rfl, ?_⟩) (by assumption) ?_
      rotate_left
      exact fun _ _ _ h => h
      focus (intro w hSw; (try dsimp only at hSw); go_simp; (try with_reducible rfl); done)
      (try simp only [Act.put, List.setIfInBounds_toArray, List.set_cons_zero, List.set_cons_succ])
      refine takeL (m := 17) (i := 4) (d := some 25) (v := ?_) rfl rfl rfl (by kernel_rfl) (by decide) (by kernel_rfl) ?_ _ _ _ _ (by kernel_rfl) (by kernel_rfl) (Or.inl ⟨by rfl, ?_⟩) (by assumption) ?_
      rotate_left
      exact fun _ _ _ h => h
      focus (intro w hSw; (try dsimp only at hSw); go_simp; (try with_reducible rfl); done)
      (try simp only [Act.put, List.setIfInBounds_toArray, List.set_cons_zero, List.set_cons_succ])
      refine takeL (m := 17) (i := 5) (d := some 26) (v := ?_) rfl rfl rfl (by kernel_rfl) (by decide) (by kernel_rfl) ?_ _ _ _ _ (by kernel_rfl) (by kernel_rfl) (Or.inl ⟨by rfl, ?_⟩) (by assumption) ?_
      rotate_left
      exact fun _ _ _ h => h
      focus (intro w hSw; (try dsimp only at hSw); go_simp; (try with_reducible rfl); done)
      (try simp only [Act.put, List.setIfInBounds_toArray, List.set_cons_zero, List.set_cons_succ])
      refine takeL (m := 17) (i := 6) (d := some 27) (v := ?_) rfl rfl rfl (by kernel_rfl) (by decide) (by kernel_rfl) ?_ _ _ _ _ (by kernel_rfl) (by kernel_rfl) (Or.inl ⟨by rfl, ?_⟩) (by assumption) ?_
      rotate_left
      exact fun _ _ _ h => h
      focus (intro w hSw; (try dsimp only at hSw); go_simp; (try with_reducible rfl); done)
      (try simp only [Act.put, List.setIfInBounds_toArray, List.set_cons_zero, List.set_cons_succ])
      refine takeL (m := 17) (i := 7) (d := some 28) (v := ?_) rfl rfl rfl (by kernel_rfl) (by decide) (by kernel_rfl) ?_ _ _ _ _ (by kernel_rfl) (by kernel_rfl) (Or.inl ⟨by rfl, ?_⟩) (by assumption) ?_
      rotate_left
      exact fun _ _ _ h => h
      focus (intro w hSw; (try dsimp only at hSw); go_simp; (try with_reducible rfl); done)
      (try simp only [Act.put, List.setIfInBounds_toArray, List.set_cons_zero, List.set_cons_succ])
      refine takeL (m := 17) (i := 8) (d := some 29) (v := ?_) rfl rfl rfl (by kernel_rfl) (by decide) (by kernel_rfl) ?_ _ _ _ _ (by kernel_rfl) (by kernel_rfl) (Or.inl ⟨by rfl, ?_⟩) (by assumption) ?_
      rotate_left
      exact fun _ _ _ h => h
      focus (intro w hSw; (try dsimp only at hSw); go_simp; (try with_reducible rfl); done)
      (try simp only [Act.put, List.setIfInBounds_toArray, List.set_cons_zero, List.set_cons_succ])
      refine takeL (m := 17) (i := 9) (d := some 30) (v := ?_) rfl rfl rfl (by kernel_rfl) (by decide) (by kernel_rfl) ?_ _ _ _ _ (by kernel_rfl) (by kernel_rfl) (Or.inl ⟨by rfl, ?_⟩) (by assumption) ?_
      rotate_left
      exact fun _ _ _ h => h
      focus (intro w hSw; (try dsimp only at hSw); go_simp; (try with_reducible rfl); done)
      (try simp only [Act.put, List.setIfInBounds_toArray, List.set_cons_zero, List.set_cons_succ])
      refine takeL (m := 17) (i := 10) (d := some 31) (v := ?_) rfl rfl rfl (by kernel_rfl) (by decide) (by kernel_rfl) ?_ _ _ _ _ (by kernel_rfl) (by kernel_rfl) (Or.inl ⟨by rfl, ?_⟩) (by assumption) ?_
      rotate_left
      exact fun _ _ _ h => h
      focus (intro w hSw; (try dsimp only at hSw); go_simp; (try with_reducible rfl); done)
      (try simp only [Act.put, List.setIfInBounds_toArray, List.set_cons_zero, List.set_cons_succ])
      refine takeL (m := 17) (i := 11) (d := some 32) (v := ?_) rfl rfl rfl (by kernel_rfl) (by decide) (by kernel_rfl) ?_ _ _ _ _ (by kernel_rfl) (by kernel_rfl) (Or.inl ⟨by rfl, ?_⟩) (by assumption) ?_
      rotate_left
      exact fun _ _ _ h => h
      focus (intro w hSw; (try dsimp only at hSw); go_simp; (try with_reducible rfl); done)
      (try simp only [Act.put, List.setIfInBounds_toArray, List.set_cons_zero, List.set_cons_succ])
      refine takeL (m := 17) (i := 12) (d := some 33) (v := ?_) rfl rfl rfl (by kernel_rfl) (by decide) (by kernel_rfl) ?_ _ _ _ _ (by kernel_rfl) (by kernel_rfl) (Or.inl ⟨by rfl, ?_⟩) (by assumption) ?_
      rotate_left
      exact fun _ _ _ h => h
      focus (intro w hSw; (try dsimp only at hSw); go_simp; (try with_reducible rfl); done)
      (try simp only [Act.put, List.setIfInBounds_toArray, List.set_cons_zero, List.set_cons_succ])
      refine takeL (m := 17) (i := 13) (d := some 34) (v := ?_) rfl rfl rfl (by kernel_rfl) (by decide) (by kernel_rfl) ?_ _ _ _ _ (by kernel_rfl) (by kernel_rfl) (Or.inl ⟨by rfl, ?_⟩) (by assumption) ?_
      rotate_left
      exact fun _ _ _ h => h
      focus (intro w hSw; (try dsimp only at hSw); go_simp; (try with_reducible rfl); done)
      (try simp only [Act.put, List.setIfInBounds_toArray, List.set_cons_zero, List.set_cons_succ])
      refine takeL (m := 17) (i := 14) (d := some 35) (v := ?_) rfl rfl rfl (by kernel_rfl) (by decide) (by kernel_rfl) ?_ _ _ _ _ (by kernel_rfl) (by kernel_rfl) (Or.inl ⟨by rfl, ?_⟩) (by assumption) ?_
      rotate_left
      exact fun _ _ _ h => h
      focus (intro w hSw; (try dsimp only at hSw); go_simp; (try with_reducible rfl); done)
      (try simp only [Act.put, List.setIfInBounds_toArray, List.set_cons_zero, List.set_cons_succ])
      refine takeL (m := 17) (i := 15) (d := some 36) (v := ?_) rfl rfl rfl (by kernel_rfl) (by decide) (by kernel_rfl) ?_ _ _ _ _ (by kernel_rfl) (by kernel_rfl) (Or.inl ⟨by rfl, ?_⟩) (by assumption) ?_
      rotate_left
      exact fun _ _ _ h => h
      focus (intro w hSw; (try dsimp only at hSw); go_simp; (try with_reducible rfl); done)
      (try simp only [Act.put, List.setIfInBounds_toArray, List.set_cons_zero, List.set_cons_succ])
      refine takeL (m := 17) (i := 16) (d := some 37) (v := ?_) rfl rfl rfl (by kernel_rfl) (by decide) (by kernel_rfl) ?_ _ _ _ _ (by kernel_rfl) (by kernel_rfl) (Or.inl ⟨by rfl, ?_⟩) (by assumption) ?_
      rotate_left
      exact fun _ _ _ h => h
      focus (intro w hSw; (try dsimp only at hSw); go_simp; (try with_reducible rfl); done)
      (try simp only [Act.put, List.setIfInBounds_toArray, List.set_cons_zero, List.set_cons_succ])
      refine lastL (by kernel_rfl) rfl (fun K hK => ?_)
      go_simp
      refine hK.out _ _ ?_
      clear hK
      (try simp only [Act.put, List.setIfInBounds_toArray, List.set_cons_zero, List.set_cons_succ])
      refine doneL (by kernel_rfl) ?_
      clear c0 f0
      go_wp2
      go_roundw
      case rel =>
        refine ⟨j + 1, _, by omega, by go_num, row_set (w := wr.drew) HG.out _ _, by show _ = _; simpa using HS.out, fun k hk => ?_, hbel.drew.setCell (p := ⟨w.heap.size, j, none⟩) (Nat.le_refl _) _⟩
        by_cases e : k = j
        · subst e; rw [Array.getElem?_setIfInBounds, if_pos rfl, if_pos hs3, HE.out]
        · rw [Array.getElem?_setIfInBounds, if_neg (by omega)]; exact HC.out k (by omega)
      case measure => simp [intOf]; omega
    · obtain rfl : j = a.size := by omega
      have hcv := run_convert_bytes_arg wr 31 5 Try.underlying31 Try.underlying5 w.heap.size 0 a.size a.size (twL a b) (twL_len a b) (fun i hi => by
        rw [Nat.zero_add, row_cell HG.out, HC.out i hi]
        rfl) 9 Try.underlying9
      go_wp2
      go_ret2
      exact ⟨rfl, hbel⟩
set_option maxHeartbeats 1600000 in
theorem c_sWarnedWheels (a b : ByteArray) (ha : CV a = true) (hb : CV b = true) (hs : a.size = b.size) (w : World) :
    Calls Try.prog 83 #[.string a, .string b] w fun e w' => e = .returned (.tuple #[.string (wwB a b), .bool true]) ∧ Below w.heap.size w w' := by
  obtain ⟨⟨z1, z2⟩, hda⟩ := CV_iff.1 ha
  obtain ⟨⟨y1, y2⟩, hdb⟩ := CV_iff.1 hb
  have HDA := hid hda
  have HDB := hid hdb
  have HAL := hid (alk_iff.2 ⟨ha, hb, hs⟩)
  have HAL2 := hid hs
  have HCA := hid ha
  have HCB := hid hb
  have hmk := mk_bytes a.size (by omega)
  have HMS := hid (show (madeCells #[Value.int .u8 0] a.size).size = a.size by rw [size_madeCells] <;> rfl)
  generalize madeCells #[Value.int .u8 0] a.size = mc at *
  clear hda hdb ha hb hs
  go_enter Try.func83, Try.ntmps83
  go_wp2_with fail
  refine (c_l1Pair a b HCA.out HCB.out HAL2.out _).mono ?_
  rintro e wx ⟨rfl, rfl⟩
  go_wp2
  go_loopw [7] (fun i wr => ∃ (j : Nat) (cur : Array Value), j ≤ a.size ∧ i = .int .i64 j ∧ Hid (wr.heap[w.heap.size]? = some (.cells cur 5 (0, 0))) ∧ Hid (cur.size = a.size) ∧ Hid (∀ k, k < j → cur[k]? = some (.int .u8 (el (wwL a b) k))) ∧ Below w.heap.size w wr) (fun i _ => a.size - (intOf i).toNat)
  case atStart => exact ⟨0, mc, Nat.zero_le _, rfl, heap_alloc_new _ _, HMS, fun k hk => by omega, (Below.refl w.heap.size w).alloc (Nat.le_refl _) _⟩
  case round =>
    obtain ⟨j, cur, hj, rfl, HG, HS, HC, hbel⟩ := hrel
    clear hmk
    by_cases hlt : j < a.size
    · have hlb : j < b.size := by have := HAL2.out; omega
      have hs3 : j < cur.size := by rw [HS.out]; omega
      have hgl := (Array.getElem?_eq_some_iff.1 HG.out).1
      have q0 : (0 : Int) ≤ (j : Int) := by omega
      have q1 : (j : Int) < a.size := by omega
      have q2 : (j : Int) < b.size := by omega
      have d1 := HDA.out j hlt
      have d2 := HDB.out j hlb
      rw [bN_eq hlt] at d1
      rw [bN_eq hlb] at d2
      have HE := hid (wwL_el (a := a) (b := b) hlt)
      rw [bN_eq hlt, bN_eq hlb] at HE
      obtain ⟨d10, d11⟩ := d1
      obtain ⟨d20, d21⟩ := d2
      have k1 : IntKind.i64.wrap (((a[j]'hlt).toNat : Int) - 48) = ((a[j]'hlt).toNat : Int) - 48 := IntWalk.i64_in _ (by omega)
      have k2 : IntKind.i64.wrap (((a[j]'hlt).toNat : Int) - 48 + ((b[j]'hlb).toNat : Int)) = ((a[j]'hlt).toNat : Int) - 48 + ((b[j]'hlb).toNat : Int) := IntWalk.i64_in _ (by omega)
      have k3 : IntKind.i64.wrap (((a[j]'hlt).toNat : Int) - 48 + ((b[j]'hlb).toNat : Int) - 48) = ((a[j]'hlt).toNat : Int) - 48 + ((b[j]'hlb).toNat : Int) - 48 := IntWalk.i64_in _ (by omega)
      have k4 : (((a[j]'hlt).toNat : Int) - 48 + ((b[j]'hlb).toNat : Int) - 48).tdiv 10 = (((a[j]'hlt).toNat : Int) - 48 + (((b[j]'hlb).toNat : Int) - 48)) / 10 := by rw [Int.tdiv_eq_ediv_of_nonneg (by omega)]; congr 1; omega
      have k5 : IntKind.i64.wrap (48 + (((a[j]'hlt).toNat : Int) - 48 + (((b[j]'hlb).toNat : Int) - 48)) / 10) = 48 + (((a[j]'hlt).toNat : Int) - 48 + (((b[j]'hlb).toNat : Int) - 48)) / 10 := IntWalk.i64_in _ (by omega)
      have k6 : IntKind.u8.wrap (48 + (((a[j]'hlt).toNat : Int) - 48 + (((b[j]'hlb).toNat : Int) - 48)) / 10) = 48 + (((a[j]'hlt).toNat : Int) - 48 + (((b[j]'hlb).toNat : Int) - 48)) / 10 := IntWalk.u8_in _ (by omega)
      replace HE := hid (HE.out.trans (show _ = 48 + (((a[j]'hlt).toNat : Int) - 48 + ((b[j]'hlb).toNat : Int) - 48).tdiv 10 by rw [k4]))
      go_wp2_with fail
      have c0 : wr.drew.cell? ⟨w.heap.size, j, none⟩ = some (cur[j]'hs3) := by show wr.cell? _ = _; rw [row_cell HG.out, Array.getElem?_eq_getElem hs3]
      have f0 : wr.drew.frozen? ⟨w.heap.size, j, none⟩ = false := row_free HG.out j
      refine regionL (m := 17) (S := fun _ => True) (by kernel_rfl) ?_ (fun hHeld => ?_)
      focus (exact trivial)
      refine takeL (m := 17) (i := 0) (d := some 21) (v := ?_) rfl rfl rfl (by kernel_rfl) (by decide) (by kernel_rfl) ?_ _ _ _ _ (by kernel_rfl) (by kernel_rfl) (Or.inl ⟨by rfl, ?_⟩) (by assumption) ?_
      rotate_left
      exact fun _ _ _ h => h
      focus (intro w hSw; (try dsimp only at hSw); go_simp; (try with_reducible rfl); done)
      (try simp only [Act.put, List.setIfInBounds_toArray, List.set_cons_zero, List.set_cons_succ])
      refine takeL (m := 17) (i := 1) (d := some 22) (v := ?_) rfl rfl rfl (by kernel_rfl) (by decide) (by kernel_rfl) ?_ _ _ _ _ (by kernel_rfl) (by kernel_rfl) (Or.inl ⟨by rfl, ?_⟩) (by assumption) ?_
      rotate_left
      exact fun _ _ _ h => h
      focus (intro w hSw; (try dsimp only at hSw); go_simp; (try with_reducible rfl); done)
      (try simp only [Act.put, List.setIfInBounds_toArray, List.set_cons_zero, List.set_cons_succ])
      refine takeL (m := 17) (i := 2) (d := some 23) (v := ?_) rfl rfl rfl (by kernel_rfl) (by decide) (by kernel_rfl) ?_ _ _ _ _ (by kernel_rfl) (by kernel_rfl) (Or.inl ⟨by rfl, ?_⟩) (by assumption) ?_
      rotate_left
      exact fun _ _ _ h => h
      focus (intro w hSw; (try dsimp only at hSw); go_simp; (try with_reducible rfl); done)
      (try simp only [Act.put, List.setIfInBounds_toArray, List.set_cons_zero, List.set_cons_succ])
      refine takeL (m := 17) (i := 3) (d := some 24) (v := ?_) rfl rfl rfl (by kernel_rfl) (by decide) (by kernel_rfl) ?_ _ _ _ _ (by kernel_rfl) (by kernel_rfl) (Or.inl ⟨by rfl, ?_⟩) (by assumption) ?_
      rotate_left
      exact fun _ _ _ h => h
      focus (intro w hSw; (try dsimp only at hSw); go_simp; (try with_reducible rfl); done)
      (try simp only [Act.put, List.setIfInBounds_toArray, List.set_cons_zero, List.set_cons_succ])
      refine takeL (m := 17) (i := 4) (d := some 25) (v := ?_) rfl rfl rfl (by kernel_rfl) (by decide) (by kernel_rfl) ?_ _ _ _ _ (by kernel_rfl) (by kernel_rfl) (Or.inl ⟨by rfl, ?_⟩) (by assumption) ?_
      rotate_left
      exact fun _ _ _ h => h
      focus (intro w hSw; (try dsimp only at hSw); go_simp; (try with_reducible rfl); done)
      (try simp only [Act.put, List.setIfInBounds_toArray, List.set_cons_zero, List.set_cons_succ])
      refine takeL (m := 17) (i := 5) (d := some 26) (v := ?_) rfl rfl rfl (by kernel_rfl) (by decide) (by kernel_rfl) ?_ _ _ _ _ (by kernel_rfl) (by kernel_rfl) (Or.inl ⟨by rfl, ?_⟩) (by assumption) ?_
      rotate_left
      exact fun _ _ _ h => h
      focus (intro w hSw; (try dsimp only at hSw); go_simp; (try with_reducible rfl); done)
      (try simp only [Act.put, List.setIfInBounds_toArray, List.set_cons_zero, List.set_cons_succ])
      refine takeL (m := 17) (i := 6) (d := some 27) (v := ?_) rfl rfl rfl (by kernel_rfl) (by decide) (by kernel_rfl) ?_ _ _ _ _ (by kernel_rfl) (by kernel_rfl) (Or.inl ⟨by rfl, ?_⟩) (by assumption) ?_
      rotate_left
      exact fun _ _ _ h => h
      focus (intro w hSw; (try dsimp only at hSw); go_simp; (try with_reducible rfl); done)
      (try simp only [Act.put, List.setIfInBounds_toArray, List.set_cons_zero, List.set_cons_succ])
      refine takeL (m := 17) (i := 7) (d := some 28) (v := ?_) rfl rfl rfl (by kernel_rfl) (by decide) (by kernel_rfl) ?_ _ _ _ _ (by kernel_rfl) (by kernel_rfl) (Or.inl ⟨by rfl, ?_⟩) (by assumption) ?_
      rotate_left
      exact fun _ _ _ h => h
      focus (intro w hSw; (try dsimp only at hSw); go_simp; (try with_reducible rfl); done)
      (try simp only [Act.put, List.setIfInBounds_toArray, List.set_cons_zero, List.set_cons_succ])
      refine takeL (m := 17) (i := 8) (d := some 29) (v := ?_) rfl rfl rfl (by kernel_rfl) (by decide) (by kernel_rfl) ?_ _ _ _ _ (by kernel_rfl) (by kernel_rfl) (Or.inl ⟨by rfl, ?_⟩) (by assumption) ?_
      rotate_left
      exact fun _ _ _ h => h
      focus (intro w hSw; (try dsimp only at hSw); go_simp; (try with_reducible rfl); done)
      (try simp only [Act.put, List.setIfInBounds_toArray, List.set_cons_zero, List.set_cons_succ])
      refine takeL (m := 17) (i := 9) (d := some 30) (v := ?_) rfl rfl rfl (by kernel_rfl) (by decide) (by kernel_rfl) ?_ _ _ _ _ (by kernel_rfl) (by kernel_rfl) (Or.inl ⟨by rfl, ?_⟩) (by assumption) ?_
      rotate_left
      exact fun _ _ _ h => h
      focus (intro w hSw; (try dsimp only at hSw); go_simp; (try with_reducible rfl); done)
      (try simp only [Act.put, List.setIfInBounds_toArray, List.set_cons_zero, List.set_cons_succ])
      refine takeL (m := 17) (i := 10) (d := some 31) (v := ?_) rfl rfl rfl (by kernel_rfl) (by decide) (by kernel_rfl) ?_ _ _ _ _ (by kernel_rfl) (by kernel_rfl) (Or.inl ⟨by rfl, ?_⟩) (by assumption) ?_
      rotate_left
      exact fun _ _ _ h => h
      focus (intro w hSw; (try dsimp only at hSw); go_simp; (try with_reducible rfl); done)
      (try simp only [Act.put, List.setIfInBounds_toArray, List.set_cons_zero, List.set_cons_succ])
      refine takeL (m := 17) (i := 11) (d := some 32) (v := ?_) rfl rfl rfl (by kernel_rfl) (by decide) (by kernel_rfl) ?_ _ _ _ _ (by kernel_rfl) (by kernel_rfl) (Or.inl ⟨by rfl, ?_⟩) (by assumption) ?_
      rotate_left
      exact fun _ _ _ h => h
      focus (intro w hSw; (try dsimp only at hSw); go_simp; (try with_reducible rfl); done)
      (try simp only [Act.put, List.setIfInBounds_toArray, List.set_cons_zero, List.set_cons_succ])
      refine takeL (m := 17) (i := 12) (d := some 33) (v := ?_) rfl rfl rfl (by kernel_rfl) (by decide) (by kernel_rfl) ?_ _ _ _ _ (by kernel_rfl) (by kernel_rfl) (Or.inl ⟨by rfl, ?_⟩) (by assumption) ?_
      rotate_left
      exact fun _ _ _ h => h
      focus (intro w hSw; (try dsimp only at hSw); go_simp; (try with_reducible rfl); done)
      (try simp only [Act.put, List.setIfInBounds_toArray, List.set_cons_zero, List.set_cons_succ])
      refine takeL (m := 17) (i := 13) (d := some 34) (v := ?_) rfl rfl rfl (by kernel_rfl) (by decide) (by kernel_rfl) ?_ _ _ _ _ (by kernel_rfl) (by kernel_rfl) (Or.inl ⟨by rfl, ?_⟩) (by assumption) ?_
      rotate_left
      exact fun _ _ _ h => h
      focus (intro w hSw; (try dsimp only at hSw); go_simp; (try with_reducible rfl); done)
      (try simp only [Act.put, List.setIfInBounds_toArray, List.set_cons_zero, List.set_cons_succ])
      refine takeL (m := 17) (i := 14) (d := some 35) (v := ?_) rfl rfl rfl (by kernel_rfl) (by decide) (by kernel_rfl) ?_ _ _ _ _ (by kernel_rfl) (by kernel_rfl) (Or.inl ⟨by rfl, ?_⟩) (by assumption) ?_
      rotate_left
      exact fun _ _ _ h => h
      focus (intro w hSw; (try dsimp only at hSw); go_simp; (try with_reducible rfl); done)
      (try simp only [Act.put, List.setIfInBounds_toArray, List.set_cons_zero, List.set_cons_succ])
      refine takeL (m := 17) (i := 15) (d := some 36) (v := ?_) rfl rfl rfl (by kernel_rfl) (by decide) (by kernel_rfl) ?_ _ _ _ _ (by kernel_rfl) (by kernel_rfl) (Or.inl ⟨by rfl, ?_⟩) (by assumption) ?_
      rotate_left
      exact fun _ _ _ h => h
      focus (intro w hSw; (try dsimp only at hSw); go_simp; (try with_reducible rfl); done)
      (try simp only [Act.put, List.setIfInBounds_toArray, List.set_cons_zero, List.set_cons_succ])
      refine takeL (m := 17) (i := 16) (d := some 37) (v := ?_) rfl rfl rfl (by kernel_rfl) (by decide) (by kernel_rfl) ?_ _ _ _ _ (by kernel_rfl) (by kernel_rfl) (Or.inl ⟨by rfl, ?_⟩) (by assumption) ?_
      rotate_left
      exact fun _ _ _ h => h
      focus (intro w hSw; (try dsimp only at hSw); go_simp; (try with_reducible rfl); done)
      (try simp only [Act.put, List.setIfInBounds_toArray, List.set_cons_zero, List.set_cons_succ])
      refine lastL (by kernel_rfl) rfl (fun K hK => ?_)
      go_simp
      refine hK.out _ _ ?_
      clear hK
      (try simp only [Act.put, List.setIfInBounds_toArray, List.set_cons_zero, List.set_cons_succ])
      refine doneL (by kernel_rfl) ?_
      clear c0 f0
      go_wp2
      go_roundw
      case rel =>
        refine ⟨j + 1, _, by omega, by go_num, row_set (w := wr.drew) HG.out _ _, by show _ = _; simpa using HS.out, fun k hk => ?_, hbel.drew.setCell (p := ⟨w.heap.size, j, none⟩) (Nat.le_refl _) _⟩
        by_cases e : k = j
        · subst e; rw [Array.getElem?_setIfInBounds, if_pos rfl, if_pos hs3, HE.out]
        · rw [Array.getElem?_setIfInBounds, if_neg (by omega)]; exact HC.out k (by omega)
      case measure => simp [intOf]; omega
    · obtain rfl : j = a.size := by omega
      have hcv := run_convert_bytes_arg wr 31 5 Try.underlying31 Try.underlying5 w.heap.size 0 a.size a.size (wwL a b) (wwL_len a b) (fun i hi => by
        rw [Nat.zero_add, row_cell HG.out, HC.out i hi]
        rfl) 9 Try.underlying9
      go_wp2
      go_ret2
      exact ⟨rfl, hbel⟩
set_option maxHeartbeats 1600000 in
theorem c_iWarnedWheels (a b : ByteArray) (ha : CV a = true) (hb : CV b = true) (hs : a.size = b.size) (w : World) :
    Calls Try.prog 64 #[.string a, .string b] w fun e w' => e = .returned (.tuple #[.string (wwB a b), .bool true]) ∧ Below w.heap.size w w' := by
  obtain ⟨⟨z1, z2⟩, hda⟩ := CV_iff.1 ha
  obtain ⟨⟨y1, y2⟩, hdb⟩ := CV_iff.1 hb
  have HDA := hid hda
  have HDB := hid hdb
  have HAL := hid (alk_iff.2 ⟨ha, hb, hs⟩)
  have HAL2 := hid hs
  have HCA := hid ha
  have HCB := hid hb
  have hmk := mk_bytes a.size (by omega)
  have HMS := hid (show (madeCells #[Value.int .u8 0] a.size).size = a.size by rw [size_madeCells] <;> rfl)
  generalize madeCells #[Value.int .u8 0] a.size = mc at *
  clear hda hdb ha hb hs
  go_enter Try.func64, Try.ntmps64
  go_wp2_with fail
  refine (c_alike a b (by unfold maxLen; omega) (by unfold maxLen; omega) _).mono ?_
  rw [HAL.out]
  rintro e wx ⟨rfl, rfl⟩
  go_wp2
  go_loopw [17] (fun i wr => ∃ (j : Nat) (cur : Array Value), j ≤ a.size ∧ i = .int .i64 j ∧ Hid (wr.heap[w.heap.size]? = some (.cells cur 5 (0, 0))) ∧ Hid (cur.size = a.size) ∧ Hid (∀ k, k < j → cur[k]? = some (.int .u8 (el (wwL a b) k))) ∧ Below w.heap.size w wr) (fun i _ => a.size - (intOf i).toNat)
  case atStart => exact ⟨0, mc, Nat.zero_le _, rfl, heap_alloc_new _ _, HMS, fun k hk => by omega, (Below.refl w.heap.size w).alloc (Nat.le_refl _) _⟩
  case round =>
    obtain ⟨j, cur, hj, rfl, HG, HS, HC, hbel⟩ := hrel
    clear hmk
    by_cases hlt : j < a.size
    · have hlb : j < b.size := by have := HAL2.out; omega
      have hs3 : j < cur.size := by rw [HS.out]; omega
      have c0 : wr.cell? ⟨w.heap.size, j, none⟩ = some (cur[j]'hs3) := by rw [row_cell HG.out, Array.getElem?_eq_getElem hs3]
      have f0 := row_free HG.out j
      have hgl := (Array.getElem?_eq_some_iff.1 HG.out).1
      have q0 : (0 : Int) ≤ (j : Int) := by omega
      have q1 : (j : Int) < a.size := by omega
      have q2 : (j : Int) < b.size := by omega
      have d1 := HDA.out j hlt
      have d2 := HDB.out j hlb
      rw [bN_eq hlt] at d1
      rw [bN_eq hlb] at d2
      have HE := hid (wwL_el (a := a) (b := b) hlt)
      rw [bN_eq hlt, bN_eq hlb] at HE
      obtain ⟨d10, d11⟩ := d1
      obtain ⟨d20, d21⟩ := d2
      have k1 : IntKind.u8.wrap (((a[j]'hlt).toNat : Int) - 48) = ((a[j]'hlt).toNat : Int) - 48 := IntWalk.u8_in _ (by omega)
      have k2 : IntKind.u8.wrap (((a[j]'hlt).toNat : Int) - 48 + ((b[j]'hlb).toNat : Int)) = ((a[j]'hlt).toNat : Int) - 48 + ((b[j]'hlb).toNat : Int) := IntWalk.u8_in _ (by omega)
      have k3 : IntKind.u8.wrap (((a[j]'hlt).toNat : Int) - 48 + ((b[j]'hlb).toNat : Int) - 48) = ((a[j]'hlt).toNat : Int) - 48 + ((b[j]'hlb).toNat : Int) - 48 := IntWalk.u8_in _ (by omega)
      have HG2 := hid (row_set HG.out j (.int .u8 48))
      have hs4 : j < (cur.setIfInBounds j (.int .u8 48)).size := by simpa using hs3
      have c1 : (wr.setCell ⟨w.heap.size, j, none⟩ (.int .u8 48)).cell? ⟨w.heap.size, j, none⟩ = some ((cur.setIfInBounds j (.int .u8 48))[j]'hs4) := by rw [row_cell HG2.out, Array.getElem?_eq_getElem hs4]
      have f1 := row_free HG2.out j
      by_cases h10 : 10 ≤ ((a[j]'hlt).toNat : Int) - 48 + ((b[j]'hlb).toNat : Int) - 48
      · have h10' : ((a[j]'hlt).toNat : Int) - 48 + ((b[j]'hlb).toNat : Int) - 48 ≥ 10 := h10
        have HV := hid (show 48 + (((a[j]'hlt).toNat : Int) - 48 + (((b[j]'hlb).toNat : Int) - 48)) / 10 = 49 by omega)
        go_wp2_with fail
        refine wp_region_held_drew (S := fun _ => True) (by kernel_rfl) ?_ (fun hHeld => ?_)
        focus (exact trivial)
        refine take_at (i := 0) (d := some 23) (v := ?_) rfl rfl (by kernel_rfl) (by kernel_rfl) (by kernel_rfl) ?_ (Or.inl ⟨by rfl, ?_⟩) (by assumption) ?_
        rotate_left
        exact fun _ _ _ h => h
        focus (intro w hSw; (try dsimp only at hSw); go_simp; (try with_reducible rfl); done)
        (try simp only [Act.put, List.setIfInBounds_toArray, List.set_cons_zero, List.set_cons_succ])
        refine take_at (i := 1) (d := some 24) (v := ?_) rfl rfl (by kernel_rfl) (by kernel_rfl) (by kernel_rfl) ?_ (Or.inl ⟨by rfl, ?_⟩) (by assumption) ?_
        rotate_left
        exact fun _ _ _ h => h
        focus (intro w hSw; (try dsimp only at hSw); go_simp; (try with_reducible rfl); done)
        (try simp only [Act.put, List.setIfInBounds_toArray, List.set_cons_zero, List.set_cons_succ])
        refine take_at (i := 2) (d := some 25) (v := ?_) rfl rfl (by kernel_rfl) (by kernel_rfl) (by kernel_rfl) ?_ (Or.inl ⟨by rfl, ?_⟩) (by assumption) ?_
        rotate_left
        exact fun _ _ _ h => h
        focus (intro w hSw; (try dsimp only at hSw); go_simp; (try with_reducible rfl); done)
        (try simp only [Act.put, List.setIfInBounds_toArray, List.set_cons_zero, List.set_cons_succ])
        refine take_at (i := 3) (d := some 26) (v := ?_) rfl rfl (by kernel_rfl) (by kernel_rfl) (by kernel_rfl) ?_ (Or.inl ⟨by rfl, ?_⟩) (by assumption) ?_
        rotate_left
        exact fun _ _ _ h => h
        focus (intro w hSw; (try dsimp only at hSw); go_simp; (try with_reducible rfl); done)
        (try simp only [Act.put, List.setIfInBounds_toArray, List.set_cons_zero, List.set_cons_succ])
        refine take_at (i := 4) (d := some 27) (v := ?_) rfl rfl (by kernel_rfl) (by kernel_rfl) (by kernel_rfl) ?_ (Or.inl ⟨by rfl, ?_⟩) (by assumption) ?_
        rotate_left
        exact fun _ _ _ h => h
        focus (intro w hSw; (try dsimp only at hSw); go_simp; (try with_reducible rfl); done)
        (try simp only [Act.put, List.setIfInBounds_toArray, List.set_cons_zero, List.set_cons_succ])
        refine take_at (i := 5) (d := some 28) (v := ?_) rfl rfl (by kernel_rfl) (by kernel_rfl) (by kernel_rfl) ?_ (Or.inl ⟨by rfl, ?_⟩) (by assumption) ?_
        rotate_left
        exact fun _ _ _ h => h
        focus (intro w hSw; (try dsimp only at hSw); go_simp; (try with_reducible rfl); done)
        (try simp only [Act.put, List.setIfInBounds_toArray, List.set_cons_zero, List.set_cons_succ])
        refine take_at (i := 6) (d := some 29) (v := ?_) rfl rfl (by kernel_rfl) (by kernel_rfl) (by kernel_rfl) ?_ (Or.inl ⟨by rfl, ?_⟩) (by assumption) ?_
        rotate_left
        exact fun _ _ _ h => h
        focus (intro w hSw; (try dsimp only at hSw); go_simp; (try with_reducible rfl); done)
        (try simp only [Act.put, List.setIfInBounds_toArray, List.set_cons_zero, List.set_cons_succ])
        refine take_at (i := 7) (d := some 30) (v := ?_) rfl rfl (by kernel_rfl) (by kernel_rfl) (by kernel_rfl) ?_ (Or.inl ⟨by rfl, ?_⟩) (by assumption) ?_
        rotate_left
        exact fun _ _ _ h => h
        focus (intro w hSw; (try dsimp only at hSw); go_simp; (try with_reducible rfl); done)
        (try simp only [Act.put, List.setIfInBounds_toArray, List.set_cons_zero, List.set_cons_succ])
        refine take_at (i := 8) (d := some 31) (v := ?_) rfl rfl (by kernel_rfl) (by kernel_rfl) (by kernel_rfl) ?_ (Or.inl ⟨by rfl, ?_⟩) (by assumption) ?_
        rotate_left
        exact fun _ _ _ h => h
        focus (intro w hSw; (try dsimp only at hSw); go_simp; (try with_reducible rfl); done)
        (try simp only [Act.put, List.setIfInBounds_toArray, List.set_cons_zero, List.set_cons_succ])
        refine take_at (i := 9) (d := some 32) (v := ?_) rfl rfl (by kernel_rfl) (by kernel_rfl) (by kernel_rfl) ?_ (Or.inl ⟨by rfl, ?_⟩) (by assumption) ?_
        rotate_left
        exact fun _ _ _ h => h
        focus (intro w hSw; (try dsimp only at hSw); go_simp; (try with_reducible rfl); done)
        (try simp only [Act.put, List.setIfInBounds_toArray, List.set_cons_zero, List.set_cons_succ])
        refine wpAnyH_done (by kernel_rfl) ?_ _
        go_wp2
        go_roundw
        case rel =>
          refine ⟨j + 1, _, by omega, by go_num, row_set (w := (wr.setCell ⟨w.heap.size, j, none⟩ (.int .u8 48)).drew) HG2.out _ _, by show _ = _; simpa using HS.out, fun k hk => ?_, ((hbel.setCell (p := ⟨w.heap.size, j, none⟩) (Nat.le_refl _) _).drew).setCell (p := ⟨w.heap.size, j, none⟩) (Nat.le_refl _) _⟩
          by_cases e : k = j
          · subst e; rw [Array.getElem?_setIfInBounds, if_pos rfl, if_pos hs4, HE.out, HV.out]
          · rw [Array.getElem?_setIfInBounds, if_neg (by omega), Array.getElem?_setIfInBounds, if_neg (by omega)]; exact HC.out k (by omega)
        case measure => simp [intOf]; omega
      · have h10' : ¬ ((a[j]'hlt).toNat : Int) - 48 + ((b[j]'hlb).toNat : Int) - 48 ≥ 10 := h10
        have HV := hid (show 48 + (((a[j]'hlt).toNat : Int) - 48 + (((b[j]'hlb).toNat : Int) - 48)) / 10 = 48 by omega)
        go_wp2_with fail
        refine wp_region_held_drew (S := fun _ => True) (by kernel_rfl) ?_ (fun hHeld => ?_)
        focus (exact trivial)
        refine take_at (i := 0) (d := some 23) (v := ?_) rfl rfl (by kernel_rfl) (by kernel_rfl) (by kernel_rfl) ?_ (Or.inl ⟨by rfl, ?_⟩) (by assumption) ?_
        rotate_left
        exact fun _ _ _ h => h
        focus (intro w hSw; (try dsimp only at hSw); go_simp; (try with_reducible rfl); done)
        (try simp only [Act.put, List.setIfInBounds_toArray, List.set_cons_zero, List.set_cons_succ])
        refine take_at (i := 1) (d := some 24) (v := ?_) rfl rfl (by kernel_rfl) (by kernel_rfl) (by kernel_rfl) ?_ (Or.inl ⟨by rfl, ?_⟩) (by assumption) ?_
        rotate_left
        exact fun _ _ _ h => h
        focus (intro w hSw; (try dsimp only at hSw); go_simp; (try with_reducible rfl); done)
        (try simp only [Act.put, List.setIfInBounds_toArray, List.set_cons_zero, List.set_cons_succ])
        refine take_at (i := 2) (d := some 25) (v := ?_) rfl rfl (by kernel_rfl) (by kernel_rfl) (by kernel_rfl) ?_ (Or.inl ⟨by rfl, ?_⟩) (by assumption) ?_
        rotate_left
        exact fun _ _ _ h => h
        focus (intro w hSw; (try dsimp only at hSw); go_simp; (try with_reducible rfl); done)
        (try simp only [Act.put, List.setIfInBounds_toArray, List.set_cons_zero, List.set_cons_succ])
        refine take_at (i := 3) (d := some 26) (v := ?_) rfl rfl (by kernel_rfl) (by kernel_rfl) (by kernel_rfl) ?_ (Or.inl ⟨by rfl, ?_⟩) (by assumption) ?_
        rotate_left
        exact fun _ _ _ h => h
        focus (intro w hSw; (try dsimp only at hSw); go_simp; (try with_reducible rfl); done)
        (try simp only [Act.put, List.setIfInBounds_toArray, List.set_cons_zero, List.set_cons_succ])
        refine take_at (i := 4) (d := some 27) (v := ?_) rfl rfl (by kernel_rfl) (by kernel_rfl) (by kernel_rfl) ?_ (Or.inl ⟨by rfl, ?_⟩) (by assumption) ?_
        rotate_left
        exact fun _ _ _ h => h
        focus (intro w hSw; (try dsimp only at hSw); go_simp; (try with_reducible rfl); done)
        (try simp only [Act.put, List.setIfInBounds_toArray, List.set_cons_zero, List.set_cons_succ])
        refine take_at (i := 5) (d := some 28) (v := ?_) rfl rfl (by kernel_rfl) (by kernel_rfl) (by kernel_rfl) ?_ (Or.inl ⟨by rfl, ?_⟩) (by assumption) ?_
        rotate_left
        exact fun _ _ _ h => h
        focus (intro w hSw; (try dsimp only at hSw); go_simp; (try with_reducible rfl); done)
        (try simp only [Act.put, List.setIfInBounds_toArray, List.set_cons_zero, List.set_cons_succ])
        refine take_at (i := 6) (d := some 29) (v := ?_) rfl rfl (by kernel_rfl) (by kernel_rfl) (by kernel_rfl) ?_ (Or.inl ⟨by rfl, ?_⟩) (by assumption) ?_
        rotate_left
        exact fun _ _ _ h => h
        focus (intro w hSw; (try dsimp only at hSw); go_simp; (try with_reducible rfl); done)
        (try simp only [Act.put, List.setIfInBounds_toArray, List.set_cons_zero, List.set_cons_succ])
        refine take_at (i := 7) (d := some 30) (v := ?_) rfl rfl (by kernel_rfl) (by kernel_rfl) (by kernel_rfl) ?_ (Or.inl ⟨by rfl, ?_⟩) (by assumption) ?_
        rotate_left
        exact fun _ _ _ h => h
        focus (intro w hSw; (try dsimp only at hSw); go_simp; (try with_reducible rfl); done)
        (try simp only [Act.put, List.setIfInBounds_toArray, List.set_cons_zero, List.set_cons_succ])
        refine take_at (i := 8) (d := some 31) (v := ?_) rfl rfl (by kernel_rfl) (by kernel_rfl) (by kernel_rfl) ?_ (Or.inl ⟨by rfl, ?_⟩) (by assumption) ?_
        rotate_left
        exact fun _ _ _ h => h
        focus (intro w hSw; (try dsimp only at hSw); go_simp; (try with_reducible rfl); done)
        (try simp only [Act.put, List.setIfInBounds_toArray, List.set_cons_zero, List.set_cons_succ])
        refine take_at (i := 9) (d := some 32) (v := ?_) rfl rfl (by kernel_rfl) (by kernel_rfl) (by kernel_rfl) ?_ (Or.inl ⟨by rfl, ?_⟩) (by assumption) ?_
        rotate_left
        exact fun _ _ _ h => h
        focus (intro w hSw; (try dsimp only at hSw); go_simp; (try with_reducible rfl); done)
        (try simp only [Act.put, List.setIfInBounds_toArray, List.set_cons_zero, List.set_cons_succ])
        refine wpAnyH_done (by kernel_rfl) ?_ _
        go_wp2
        go_roundw
        case rel =>
          refine ⟨j + 1, _, by omega, by go_num, HG2.out, by show _ = _; simpa using HS.out, fun k hk => ?_, (hbel.setCell (p := ⟨w.heap.size, j, none⟩) (Nat.le_refl _) _).drew⟩
          by_cases e : k = j
          · subst e; rw [Array.getElem?_setIfInBounds, if_pos rfl, if_pos hs3, HE.out, HV.out]
          · rw [Array.getElem?_setIfInBounds, if_neg (by omega)]; exact HC.out k (by omega)
        case measure => simp [intOf]; omega
    · obtain rfl : j = a.size := by omega
      have hcv := run_convert_bytes_arg wr 31 5 Try.underlying31 Try.underlying5 w.heap.size 0 a.size a.size (wwL a b) (wwL_len a b) (fun i hi => by
        rw [Nat.zero_add, row_cell HG.out, HC.out i hi]
        rfl) 9 Try.underlying9
      go_wp2
      go_ret2
      exact ⟨rfl, hbel⟩
theorem c_marksFit (c m : ByteArray) (hc : CV c = true) (hm : Mk m) (hs : m.size = c.size) (w : World) :
    Calls Try.prog 85 #[.string c, .string m] w fun e w' => e = .returned (.bool true) ∧ w = w' := by
  have hz := (CV_iff.1 hc).1.2
  have HC := hid hc
  have HM := hid hm
  have t1 : ((m.size : Int) != (c.size : Int)) = false := by rw [hs]; simp
  clear hc hm
  go_enter Try.func85, Try.ntmps85
  go_wp2_with fail
  refine (c_iColumnValid c (by unfold maxLen; omega) _).mono ?_
  rw [HC.out]
  rintro e wx ⟨rfl, rfl⟩
  go_wp2
  go_loopw [18] (fun i wr => ∃ j : Nat, j ≤ m.size ∧ i = .int .i64 j ∧ w = wr) (fun i _ => m.size - (intOf i).toNat)
  case atStart => exact ⟨0, Nat.zero_le _, rfl, rfl⟩
  case round =>
    obtain ⟨j, hj, rfl, rfl⟩ := hrel
    by_cases hlt : j < m.size
    · have q0 : (0 : Int) ≤ (j : Int) := by omega
      have q1 : (j : Int) < m.size := by omega
      have hb := HM.out j hlt
      rw [bN_eq hlt] at hb
      rcases hb with hb | hb
      · have t2 : (((m[j]'hlt).toNat : Int) != 48) = false := by rw [hb]; rfl
        clear hb
        go_wp2
        go_roundw
        case rel => exact ⟨j + 1, by omega, by go_num, trivial⟩
        case measure => simp [intOf]; omega
      · have t2 : (((m[j]'hlt).toNat : Int) != 48) = true := by rw [hb]; rfl
        have t3 : (((m[j]'hlt).toNat : Int) != 49) = false := by rw [hb]; rfl
        clear hb
        go_wp2
        go_roundw
        case rel => exact ⟨j + 1, by omega, by go_num, trivial⟩
        case measure => simp [intOf]; omega
    · obtain rfl : j = m.size := by omega
      go_wp2
      go_ret
      exact ⟨rfl, rfl⟩
theorem c_l1Flags (c m : ByteArray) (hc : CV c = true) (hm : Mk m) (hs : m.size = c.size) (w : World) :
    Calls Try.prog 95 #[.string c, .string m] w fun e w' => e = .returned (.bool true) ∧ w = w' := by
  have hz := (CV_iff.1 hc).1.2
  have HC := hid hc
  have HM := hid hm
  have t1 : ((c.size : Int) == (m.size : Int)) = true := by rw [hs]; simp
  clear hc hm
  go_enter Try.func95, Try.ntmps95
  go_wp2
  go_loopw [5] (fun i wr => ∃ j : Nat, j ≤ m.size ∧ i = .int .i64 j ∧ w = wr) (fun i _ => m.size - (intOf i).toNat)
  case atStart => exact ⟨0, Nat.zero_le _, rfl, rfl⟩
  case round =>
    obtain ⟨j, hj, rfl, rfl⟩ := hrel
    by_cases hlt : j < m.size
    · have q0 : (0 : Int) ≤ (j : Int) := by omega
      have q1 : (j : Int) < m.size := by omega
      have hb := HM.out j hlt
      rw [bN_eq hlt] at hb
      rcases hb with hb | hb
      · have t2 : (((m[j]'hlt).toNat : Int) != 48) = false := by rw [hb]; rfl
        clear hb
        go_wp2
        go_roundw
        case rel => exact ⟨j + 1, by omega, by go_num, trivial⟩
        case measure => simp [intOf]; omega
      · have t2 : (((m[j]'hlt).toNat : Int) != 48) = true := by rw [hb]; rfl
        have t3 : (((m[j]'hlt).toNat : Int) != 49) = false := by rw [hb]; rfl
        clear hb
        go_wp2
        go_roundw
        case rel => exact ⟨j + 1, by omega, by go_num, trivial⟩
        case measure => simp [intOf]; omega
    · obtain rfl : j = m.size := by omega
      go_wp2_with fail
      refine (c_sColumnValid c (by unfold maxLen; omega) _).mono ?_
      rw [HC.out]
      rintro e wx ⟨rfl, rfl⟩
      go_wp2
      go_ret
      exact ⟨by simp [t1], rfl⟩
end Go.Proofs.Ytkaanlldjkflaaa
