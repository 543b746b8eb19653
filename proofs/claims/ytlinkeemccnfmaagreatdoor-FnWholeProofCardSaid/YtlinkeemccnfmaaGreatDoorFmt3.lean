/- What is proved here: those statements of Fmt3 that this claim needs. -/
import Derived.Lib.AppendIntMem
import Derived.Test.YtlinkeemccnfmaaGreatDoorFmt2
set_option linter.unusedVariables false
set_option linter.unusedSimpArgs false
set_option maxRecDepth 100000
namespace Go.Proofs.YtlinkeemccnfmaaGreatDoor
open Go.RowKit
theorem join_snoc (xs : List (List UInt8)) (y sep : List UInt8) (h : xs ≠ []) : Lib.join (xs ++ [y]) sep = Lib.join xs sep ++ sep ++ y := by
  cases xs with
  | nil => exact absurd rfl h
  | cons x r =>
    rw [List.cons_append, Lib.join_cons, Lib.join_cons]
    simp [Lib.joinTail]
def eBs (zs : List Int) (n : Nat) : List ByteArray := (List.range n).map (eB zs)
theorem eBs_len (zs : List Int) (n : Nat) : (eBs zs n).length = n := by simp [eBs]
theorem eBs_at (zs : List Int) (n j : Nat) (h : j < n) : (eBs zs n)[j]? = some (eB zs j) := by simp [eBs, h]
theorem eBs_join (zs : List Int) (n : Nat) (h : n ≠ 0) : Lib.join ((eBs zs n).map (·.data.toList)) (⟨#[59]⟩ : ByteArray).data.toList = (fB zs n).data.toList := by
  induction n with
  | zero => exact absurd rfl h
  | succ n ih =>
    rw [fB]
    by_cases h0 : n = 0
    · subst h0
      rw [if_pos rfl, app_data]
      simp [eBs, Lib.join_one, fB]
    · rw [if_neg h0, app_data, app_data, ← ih h0, eBs, List.range_succ, List.map_append, List.map_append]
      rw [show (List.range n).map (eB zs) = eBs zs n from rfl]
      exact join_snoc _ _ _ (by intro e; have := congrArg List.length e; rw [List.length_map, eBs_len] at this; exact h0 this)
theorem eBs_text (zs : List Int) (n : Nat) (h : n ≠ 0) : (⟨(Lib.join ((eBs zs n).map (·.data.toList)) (⟨#[59]⟩ : ByteArray).data.toList).toArray⟩ : ByteArray) = fB zs n := by
  rw [eBs_join _ _ h]
theorem fB_dlen (zs : List Int) (n : Nat) : (fB zs n).data.toList.length = (fB zs n).size := Array.length_toList
theorem mk_strsF (n : Nat) (hn : n ≤ 1099511627776) (W : World) :
    (Instr.makeSlice 26 (.int .i64 n) (.int .i64 n)).run Tryz.prog W = .ok (.slice (some ⟨W.heap.size, 0, none⟩) n n) (W.alloc (.cells (madeCells #[.string ⟨#[]⟩] n) 9)) := by
  obtain ⟨i0, hi, hz0, hz1, hz2⟩ := info_parts (show (Tryz.prog.info? 9).map (fun i => (i.zero, i.size, i.bytes)) = some (some (.string ⟨#[]⟩), 1, 16) by kernel_rfl)
  have h := run_make (P := Tryz.prog) W 26 9 i0 _ Tryz.underlying26 hi hz0 .i64 .i64 n n (by omega) (by omega) (by rw [hz2]; omega) (by omega)
  simpa [hz1, Value.cells] using h
theorem c_itoa (n : Int) (w : World) (B : Nat) (h0 : -1000000000000 ≤ n) (h1 : n ≤ 1000000000000) (htab : Lib.TabBelow Tryz.prog B w "internal/strconv.uint64pow10" .u64 Lib.pow10Tab) :
    Calls Tryz.prog 50 #[.int .i64 n] w fun e w' => e = .returned (.string (IT n)) ∧ Below w.heap.size w w' :=
  (Tryz.strconv_Itoa n (by omega) (by omega) w htab.here).mono fun e w' ⟨he, k, os, hw⟩ => ⟨he, by rw [hw]; exact Lib.below_grow _ w (Nat.le_refl _) k os⟩
set_option maxHeartbeats 6400000 in
theorem c_iFormatErrata (v : Value) (zs : List Int) (B : Nat) (w : World) (hB : B ≤ w.heap.size) (hl : zs.length ≤ 3145728) (hv : IsE w B v zs) (htab : Lib.TabIs Tryz.prog w "internal/strconv.uint64pow10" .u64 Lib.pow10Tab) :
    Calls Tryz.prog 16 #[v] w fun e w' => e = .returned (.string (FT zs)) ∧ Below w.heap.size w w' := by
  have HT := hid (Lib.tabBelow_of_tabIs htab)
  have HV := hid hv
  obtain ⟨n, a, cap, rfl, HL, hm, hr, hc⟩ := hv
  have hn : n ≤ 1048576 := by have := HL.out; omega
  have HR := hid hr
  have HC := hid hc
  unfold maxLen at hm
  clear hr hc hl htab
  cases hev : EV zs with
  | false =>
    have HF := hid (FT_no hev)
    have HE := hid hev
    clear hev
    go_enter Tryz.func16, Tryz.ntmps16
    go_wp2_with fail
    refine (c_errataValid _ zs B _ hB HV.out).mono ?_
    rintro e w1 ⟨rfl, b⟩
    rw [HE.out]
    go_wp2
    go_ret
    exact ⟨by rw [HF.out]; rfl, b⟩
  | true =>
    have HE := hid hev
    clear hev
    by_cases h0 : n = 0
    · have HF := hid (FT_none (zs := zs) (by rw [HL.out]; omega))
      have hn0 : (n : Int) = 0 := by omega
      have HBE := hid h0
      clear h0
      go_enter Tryz.func16, Tryz.ntmps16
      go_wp2_with fail
      refine (c_errataValid _ zs B _ hB HV.out).mono ?_
      rintro e w1 ⟨rfl, b⟩
      rw [HE.out]
      go_wp2
      go_ret
      exact ⟨by rw [HF.out]; rfl, b⟩
    · have HF := hid (FT_yes HL.out HE.out h0)
      have hmk := mk_strsF n (by omega)
      have HMS := hid (show (madeCells #[Value.string ⟨#[]⟩] n).size = n by rw [size_madeCells] <;> rfl)
      generalize madeCells #[Value.string ⟨#[]⟩] n = mc at *
      have hnb : ((n : Int) == 0) = false := by
        rw [beq_eq_false_iff_ne]; omega
      have HN0 := hid h0
      clear h0
      go_enter Tryz.func16, Tryz.ntmps16
      go_wp2_with fail
      refine (c_errataValid _ zs B _ hB HV.out).mono ?_
      rintro e w1 ⟨rfl, b1⟩
      rw [HE.out]
      have HB1 := hid b1
      have hs1 := b1.size
      go_wp2
      go_loopw [17] (fun i wr => ∃ (j : Nat) (cur : Array Value), j ≤ n ∧ i = .int .i64 j ∧ Hid (wr.heap[w1.heap.size]? = some (.cells cur 9 (0, 0))) ∧ Hid (cur.size = n) ∧ Hid (∀ k, k < j → cur[k]? = some (.string (eB zs k))) ∧ Below w.heap.size w wr) (fun i _ => n - (intOf i).toNat)
      case atStart => exact ⟨0, mc, Nat.zero_le _, rfl, heap_alloc_new w1 _, HMS, fun k hk => by omega, b1.alloc hs1 _⟩
      case round =>
        obtain ⟨j, cur, hj, rfl, HG, HS, HA, hbel⟩ := hrel
        clear hmk
        by_cases hlt : j < n
        · obtain ⟨b, off, rfl, hb, hcell⟩ := HC.out j hlt
          have hval := ev_at HL.out HE.out hlt
          have HVA := hid hval
          have s0 := IT_size _ (HR.out.at (j * 3)).1 (HR.out.at (j * 3)).2
          have s1 := IT_size _ (HR.out.at (j * 3 + 1)).1 (HR.out.at (j * 3 + 1)).2
          have s2 := IT_size _ (HR.out.at (j * 3 + 2)).1 (HR.out.at (j * 3 + 2)).2
          have g0 := (hbel.cell (p := ⟨b, off + j * 3, none⟩) (show b < w.heap.size by omega)).trans (hcell (j * 3) (by omega))
          have g1 := (hbel.cell (p := ⟨b, off + j * 3 + 1, none⟩) (show b < w.heap.size by omega)).trans (hcell (j * 3 + 1) (by omega))
          have g2 := (hbel.cell (p := ⟨b, off + j * 3 + 2, none⟩) (show b < w.heap.size by omega)).trans (hcell (j * 3 + 2) (by omega))
          have hbs := hbel.size
          clear hcell hval
          have q0 : (0 : Int) ≤ (j : Int) := by omega
          have q1 : (j : Int) < n := by omega
          have xz0 : ¬ 9223372036854775807 < (IT (el zs (j * 3))).size + 1 := by omega
          have z2 : ¬ 9223372036854775807 < (IT (el zs (j * 3))).size + 1 + (IT (el zs (j * 3 + 1))).size := by omega
          have z3 : ¬ 9223372036854775807 < (IT (el zs (j * 3))).size + 1 + (IT (el zs (j * 3 + 1))).size + 1 := by omega
          have z4 : ¬ 9223372036854775807 < (IT (el zs (j * 3))).size + 1 + (IT (el zs (j * 3 + 1))).size + 1 + (IT (el zs (j * 3 + 2))).size := by omega
          have HBA := hid (hbel.alloc hbs (.cells #[.int .i64 (el zs (j * 3)), .int .i64 (el zs (j * 3 + 1)), .int .i64 (el zs (j * 3 + 2))] 67))
          have HAS := hid (show (wr.alloc (.cells #[.int .i64 (el zs (j * 3)), .int .i64 (el zs (j * 3 + 1)), .int .i64 (el zs (j * 3 + 2))] 67)).heap.size = wr.heap.size + 1 by simp)
          have HK := hid (fun w' (hb' : Below (wr.heap.size + 1) (wr.alloc (.cells #[.int .i64 (el zs (j * 3)), .int .i64 (el zs (j * 3 + 1)), .int .i64 (el zs (j * 3 + 2))] 67)) w') => (show (fun w' => w'.cell? ⟨wr.heap.size, 0, none⟩ = some (.int .i64 (el zs (j * 3))) ∧ w'.cell? ⟨wr.heap.size, 1, none⟩ = some (.int .i64 (el zs (j * 3 + 1))) ∧ w'.cell? ⟨wr.heap.size, 2, none⟩ = some (.int .i64 (el zs (j * 3 + 2)))) w' from
            ⟨(hb'.cell (p := ⟨wr.heap.size, 0, none⟩) (by show wr.heap.size < wr.heap.size + 1; omega)).trans (by rw [World.cell?_alloc_at _ _ _ _ rfl]; rfl), (hb'.cell (p := ⟨wr.heap.size, 1, none⟩) (by show wr.heap.size < wr.heap.size + 1; omega)).trans (by rw [World.cell?_alloc_at _ _ _ _ rfl]; rfl), (hb'.cell (p := ⟨wr.heap.size, 2, none⟩) (by show wr.heap.size < wr.heap.size + 1; omega)).trans (by rw [World.cell?_alloc_at _ _ _ _ rfl]; rfl)⟩))
          have HGA := hid (show (wr.alloc (.cells #[.int .i64 (el zs (j * 3)), .int .i64 (el zs (j * 3 + 1)), .int .i64 (el zs (j * 3 + 2))] 67)).heap[w1.heap.size]? = some (.cells cur 9 (0, 0)) from ((Below.refl wr.heap.size wr).alloc (Nat.le_refl _) _ |>.block _ (Array.getElem?_eq_some_iff.1 HG.out).1).trans HG.out)
          have hgl := (Array.getElem?_eq_some_iff.1 HG.out).1
          have hs3 : j < cur.size := by rw [HS.out]; omega
          go_wp2_with fail
          have HR0 := hid (Below.refl (wr.heap.size + 1) (wr.alloc (.cells #[.int .i64 (el zs (j * 3)), .int .i64 (el zs (j * 3 + 1)), .int .i64 (el zs (j * 3 + 2))] 67))).drew
          refine wp_region_held_drew (S := fun w' => w'.cell? ⟨wr.heap.size, 0, none⟩ = some (.int .i64 (el zs (j * 3))) ∧ w'.cell? ⟨wr.heap.size, 1, none⟩ = some (.int .i64 (el zs (j * 3 + 1))) ∧ w'.cell? ⟨wr.heap.size, 2, none⟩ = some (.int .i64 (el zs (j * 3 + 2)))) (by kernel_rfl) ?_ (fun hHeld => ?_)
          focus (exact HK.out _ HR0.out)
          refine take_at (i := 0) (d := some 22) (v := ?_) rfl rfl (by kernel_rfl) (by kernel_rfl) (by kernel_rfl) ?_ (Or.inl ⟨by rfl, ?_⟩) (by assumption) ?_
          rotate_left
          exact fun _ _ _ h => h
          focus (intro w hSw; (try dsimp only at hSw); go_simp; (try with_reducible rfl); done)
          (try simp only [Act.put, List.setIfInBounds_toArray, List.set_cons_zero, List.set_cons_succ])
          refine take_at (i := 1) (d := some 23) (v := ?_) rfl rfl (by kernel_rfl) (by kernel_rfl) (by kernel_rfl) ?_ (Or.inl ⟨by rfl, ?_⟩) (by assumption) ?_
          rotate_left
          exact fun _ _ _ h => h
          focus (intro w hSw; (try dsimp only at hSw); go_simp; (try with_reducible rfl); done)
          (try simp only [Act.put, List.setIfInBounds_toArray, List.set_cons_zero, List.set_cons_succ])
          refine take_at (i := 2) (d := some 24) (v := ?_) rfl rfl (by kernel_rfl) (by kernel_rfl) (by kernel_rfl) ?_ (Or.inl ⟨by rfl, ?_⟩) (by assumption) ?_
          rotate_left
          exact fun _ _ _ h => h
          focus (intro w hSw; (try dsimp only at hSw); go_simp; (try with_reducible rfl); done)
          (try simp only [Act.put, List.setIfInBounds_toArray, List.set_cons_zero, List.set_cons_succ])
          refine take_at (i := 3) (d := some 25) (v := ?_) rfl rfl (by kernel_rfl) (by kernel_rfl) (by kernel_rfl) ?_ (Or.inl ⟨by rfl, ?_⟩) (by assumption) ?_
          rotate_left
          exact fun _ _ _ h => h
          focus (intro w hSw; (try dsimp only at hSw); go_simp; (try with_reducible rfl); done)
          (try simp only [Act.put, List.setIfInBounds_toArray, List.set_cons_zero, List.set_cons_succ])
          refine take_at (i := 6) (d := some 28) (v := ?_) rfl rfl (by kernel_rfl) (by kernel_rfl) (by kernel_rfl) ?_ (Or.inl ⟨by rfl, ?_⟩) (by assumption) ?_
          rotate_left
          exact fun _ _ _ h => h
          focus (intro w hSw; (try dsimp only at hSw); go_simp; (try with_reducible rfl); done)
          (try simp only [Act.put, List.setIfInBounds_toArray, List.set_cons_zero, List.set_cons_succ])
          refine take_at (i := 7) (d := some 29) (v := ?_) rfl rfl (by kernel_rfl) (by kernel_rfl) (by kernel_rfl) ?_ (Or.inl ⟨by rfl, ?_⟩) (by assumption) ?_
          rotate_left
          exact fun _ _ _ h => h
          focus (intro w hSw; (try dsimp only at hSw); go_simp; (try with_reducible rfl); done)
          (try simp only [Act.put, List.setIfInBounds_toArray, List.set_cons_zero, List.set_cons_succ])
          refine take_at (i := 11) (d := some 33) (v := ?_) rfl rfl (by kernel_rfl) (by kernel_rfl) (by kernel_rfl) ?_ (Or.inl ⟨by rfl, ?_⟩) (by assumption) ?_
          rotate_left
          exact fun _ _ _ h => h
          focus (intro w hSw; (try dsimp only at hSw); go_simp; (try with_reducible rfl); done)
          (try simp only [Act.put, List.setIfInBounds_toArray, List.set_cons_zero, List.set_cons_succ])
          refine take_at (i := 12) (d := some 34) (v := ?_) rfl rfl (by kernel_rfl) (by kernel_rfl) (by kernel_rfl) ?_ (Or.inl ⟨by rfl, ?_⟩) (by assumption) ?_
          rotate_left
          exact fun _ _ _ h => h
          focus (intro w hSw; (try dsimp only at hSw); go_simp; (try with_reducible rfl); done)
          (try simp only [Act.put, List.setIfInBounds_toArray, List.set_cons_zero, List.set_cons_succ])
          refine wpAnyH_ready (rs := [4]) (by kernel_rfl) (by simp) ?_
          refine AllReadyH.cons (o := _) rfl (fun K hK => ?_) AllReadyH.nil
          go_simp
          refine (c_itoa _ _ _ HVA.out.1.1 HVA.out.1.2 (HT.out.on HBA.out.drew)).mono ?_
          rintro e w9 ⟨rfl, b9⟩
          have bb9 := HR0.out.trans (b9.mono (Nat.le_of_eq HAS.out.symm)); have BB9 := HBA.out.drew.trans (b9.mono HBA.out.drew.size)
          refine hK.out _ _ ?_ (fun hHeld => ?_)
          focus (exact HK.out _ bb9)
          clear hK
          (try simp only [Act.put, List.setIfInBounds_toArray, List.set_cons_zero, List.set_cons_succ])
          refine take_at (i := 5) (d := some 27) (v := ?_) rfl rfl (by kernel_rfl) (by kernel_rfl) (by kernel_rfl) ?_ (Or.inl ⟨by rfl, ?_⟩) (by assumption) ?_
          rotate_left
          exact fun _ _ _ h => h
          focus (intro w hSw; (try dsimp only at hSw); go_simp; (try with_reducible rfl); done)
          (try simp only [Act.put, List.setIfInBounds_toArray, List.set_cons_zero, List.set_cons_succ])
          refine wpAnyH_ready (rs := [8]) (by kernel_rfl) (by simp) ?_
          refine AllReadyH.cons (o := _) rfl (fun K hK => ?_) AllReadyH.nil
          go_simp
          refine (c_itoa _ _ _ HVA.out.2.1.1 HVA.out.2.1.2 (HT.out.on BB9)).mono ?_
          rintro e w10 ⟨rfl, b10⟩
          have bb10 := bb9.trans (b10.mono (Nat.le_trans (Nat.le_of_eq HAS.out.symm) bb9.size)); have BB10 := BB9.trans (b10.mono BB9.size)
          refine hK.out _ _ ?_ (fun hHeld => ?_)
          focus (exact HK.out _ bb10)
          clear hK
          (try simp only [Act.put, List.setIfInBounds_toArray, List.set_cons_zero, List.set_cons_succ])
          refine take_at (i := 9) (d := some 31) (v := ?_) rfl rfl (by kernel_rfl) (by kernel_rfl) (by kernel_rfl) ?_ (Or.inl ⟨by rfl, ?_⟩) (by assumption) ?_
          rotate_left
          exact fun _ _ _ h => h
          focus (intro w hSw; (try dsimp only at hSw); go_simp; (try with_reducible rfl); done)
          (try simp only [Act.put, List.setIfInBounds_toArray, List.set_cons_zero, List.set_cons_succ])
          refine take_at (i := 10) (d := some 32) (v := ?_) rfl rfl (by kernel_rfl) (by kernel_rfl) (by kernel_rfl) ?_ (Or.inl ⟨by rfl, ?_⟩) (by assumption) ?_
          rotate_left
          exact fun _ _ _ h => h
          focus (intro w hSw; (try dsimp only at hSw); go_simp; (try with_reducible rfl); done)
          (try simp only [Act.put, List.setIfInBounds_toArray, List.set_cons_zero, List.set_cons_succ])
          refine wpAnyH_ready (rs := [13]) (by kernel_rfl) (by simp) ?_
          refine AllReadyH.cons (o := _) rfl (fun K hK => ?_) AllReadyH.nil
          go_simp
          refine (c_itoa _ _ _ HVA.out.2.2.1 HVA.out.2.2.2 (HT.out.on BB10)).mono ?_
          rintro e w11 ⟨rfl, b11⟩
          have bb11 := bb10.trans (b11.mono (Nat.le_trans (Nat.le_of_eq HAS.out.symm) bb10.size)); have BB11 := BB10.trans (b11.mono BB10.size)
          refine hK.out _ _ ?_ (fun hHeld => ?_)
          focus (exact HK.out _ bb11)
          clear hK
          (try simp only [Act.put, List.setIfInBounds_toArray, List.set_cons_zero, List.set_cons_succ])
          have HG11 := hid ((bb11.block w1.heap.size (by omega)).trans HGA.out)
          have c0 : w11.cell? ⟨w1.heap.size, j, none⟩ = some (cur[j]'hs3) := by rw [row_cell HG11.out, Array.getElem?_eq_getElem hs3]
          have f0 := row_free HG11.out j
          refine take_at (i := 14) (d := some 36) (v := ?_) rfl rfl (by kernel_rfl) (by kernel_rfl) (by kernel_rfl) ?_ (Or.inl ⟨by rfl, ?_⟩) (by assumption) ?_
          rotate_left
          exact fun _ _ _ h => h
          focus (intro w hSw; (try dsimp only at hSw); go_simp; (try with_reducible rfl); done)
          (try simp only [Act.put, List.setIfInBounds_toArray, List.set_cons_zero, List.set_cons_succ])
          refine take_at (i := 15) (d := some 37) (v := ?_) rfl rfl (by kernel_rfl) (by kernel_rfl) (by kernel_rfl) ?_ (Or.inl ⟨by rfl, ?_⟩) (by assumption) ?_
          rotate_left
          exact fun _ _ _ h => h
          focus (intro w hSw; (try dsimp only at hSw); go_simp; (try with_reducible rfl); done)
          (try simp only [Act.put, List.setIfInBounds_toArray, List.set_cons_zero, List.set_cons_succ])
          refine wpAnyH_ready (rs := [16]) (by kernel_rfl) (by simp) ?_
          refine AllReadyH.cons (o := _) rfl (fun K hK => ?_) AllReadyH.nil
          go_simp
          refine hK.out _ _ ?_ (fun hHeld => ?_)
          focus ((have hk := HK.out _ bb11; exact ⟨cell_other (show ¬ wr.heap.size = w1.heap.size by omega) hk.1, cell_other (show ¬ wr.heap.size = w1.heap.size by omega) hk.2.1, cell_other (show ¬ wr.heap.size = w1.heap.size by omega) hk.2.2⟩))
          clear hK
          (try simp only [Act.put, List.setIfInBounds_toArray, List.set_cons_zero, List.set_cons_succ])
          refine wpAnyH_done (by kernel_rfl) ?_ _
          go_wp2
          go_roundw
          case rel =>
            refine ⟨j + 1, _, by omega, by go_num, row_set HG11.out _ _, by show _ = _; simpa using HS.out, fun k hk => ?_, BB11.setCell (p := ⟨w1.heap.size, j, none⟩) hs1 _⟩
            by_cases e : k = j
            · subst e; rw [Array.getElem?_setIfInBounds, if_pos rfl, if_pos hs3]; rfl
            · rw [Array.getElem?_setIfInBounds, if_neg (by omega)]; exact HA.out k (by omega)
          case measure => simp [intOf]; omega
        · obtain rfl : j = n := by omega
          have hgl := (Array.getElem?_eq_some_iff.1 HG.out).1
          have HTX := hid (eBs_text zs j HN0.out)
          have fs := (fB_size HR.out j).1
          have HJ := hid (Tryz.strings_Join w1.heap.size 0 j (eBs zs j) ⟨#[59]⟩ wr (fun i x hx => by
            have hi : i < j := by have := (List.getElem?_eq_some_iff.1 hx).1; rw [eBs_len] at this; exact this
            rw [eBs_at _ _ _ hi] at hx
            cases hx
            rw [Nat.zero_add, row_cell HG.out]; exact HA.out i hi) hgl (by rw [eBs_len]; omega) (by rw [eBs_len]; omega) (by rw [eBs_join _ _ HN0.out, fB_dlen]; omega))
          have HBE := hid hbel
          go_wp2_with fail
          have hj := HJ.out
          rw [eBs_len, HTX.out] at hj
          refine hj.mono ?_
          rintro e w12 ⟨rfl, b12⟩
          go_wp2
          go_ret
          exact ⟨by rw [HF.out]; rfl, hbel.trans (b12.mono hbel.size)⟩
end Go.Proofs.YtlinkeemccnfmaaGreatDoor
