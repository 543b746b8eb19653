/- What is proved here: contracts of carrying once (impl and spec). -/
import Derived.Test.YtkaanlldjkflaaaCar1
import Derived.Test.YtkaanlldjkflaaaShr
import Derived.Lib.ConvBytes
import Derived.Lib.Repeat
set_option linter.unusedVariables false
set_option linter.unusedSimpArgs false
set_option maxRecDepth 100000
namespace Go.Proofs.Ytkaanlldjkflaaa
open Go.RowKit

/-! ### a row of bytes made of a string -/
theorem brow_cell {w : World} {g a b : Nat} {cur : Array Value} {e : TypeId} (h : w.heap[g]? = some (.cells cur e (a, b))) (j : Nat) : w.cell? ⟨g, j, none⟩ = cur[j]? := by
  simp [World.cell?, h]
theorem brow_free {w : World} {g a b : Nat} {cur : Array Value} {e : TypeId} (h : w.heap[g]? = some (.cells cur e (a, b))) (j : Nat) (hj : j < a) : w.frozen? ⟨g, j, none⟩ = false := by
  simp [World.frozen?, h]; omega
theorem brow_set {w : World} {g a b : Nat} {cur : Array Value} {e : TypeId} (h : w.heap[g]? = some (.cells cur e (a, b))) (j : Nat) (u : Value) :
    (w.setCell ⟨g, j, none⟩ u).heap[g]? = some (.cells (cur.setIfInBounds j u) e (a, b)) := by
  simp only [World.setCell, Array.getElem?_modify, h]; simp
theorem bytes_below (w : World) (e : TypeId) (s : ByteArray) : Below w.heap.size w (Lib.bytesWorld w e s) :=
  ⟨rfl, rfl, rfl, by rw [Lib.bytesWorld_size]; omega, fun j hj => Lib.bytesWorld_at_old w e s j hj⟩
theorem bytes_at {w : World} {e : TypeId} {s : ByteArray} {j : Nat} (hj : j < s.size) : (Lib.bytesCells w e s)[j]? = some (.int .u8 (bN s j)) := by
  have h := Lib.bytesWorld_cell w e s j hj
  rw [brow_cell (Lib.bytesWorld_at_new w e s)] at h
  rw [h, bN_data hj, List.getD_eq_getElem?_getD, List.getElem?_eq_getElem (by rw [Array.length_toList]; exact hj)]
  rfl
theorem bytes_len (w : World) (e : TypeId) (s : ByteArray) : s.size ≤ (Lib.bytesCells w e s).size := by
  rw [Lib.bytesCells, Array.size_append, Array.size_map]; exact Nat.le_add_right _ _
theorem rep_size (n : Nat) : (⟨(Lib.repeatL [48] n).toArray⟩ : ByteArray).size = n := by
  show (Lib.repeatL [48] n).toArray.size = n
  rw [List.size_toArray, Lib.repeatL_length]; simp
theorem rep_bN {n j : Nat} (h : j < n) : bN ⟨(Lib.repeatL [48] n).toArray⟩ j = 48 := by
  rw [bN_data (by rw [rep_size]; exact h)]
  have e : Lib.repeatL [48] n = List.replicate n 48 := by
    have := Lib.repeatL_replicate 48 1 n
    rw [Nat.mul_one] at this
    exact this
  simp only [e]
  simp
/-- What a wheel and its mark are after carrying once. -/
theorem co_yes {c m : ByteArray} {q : Nat} (hm : Mk m) (hs : m.size = c.size) (hq : q + 1 < c.size) (h1 : bN m (q + 1) = 49) : el (twL c (upB m)) q = 48 + (bN c q - 48 + 1) % 10 ∧ el (wwL c (upB m)) q = 48 + (bN c q - 48 + 1) / 10 := by
  rw [twL_el (by omega), wwL_el (by omega), upB_bN hm.dg (by omega), if_pos (by omega), h1]
  exact ⟨rfl, rfl⟩
theorem co_no {c m : ByteArray} {q : Nat} (hc : Dg c) (hm : Mk m) (hs : m.size = c.size) (hq : q < c.size) (h1 : q + 1 < c.size → bN m (q + 1) = 48) : el (twL c (upB m)) q = bN c q ∧ el (wwL c (upB m)) q = 48 := by
  have hd := hc q hq
  rw [twL_el hq, wwL_el hq, upB_bN hm.dg (by omega)]
  split
  · rw [h1 (by omega)]; omega
  · omega
set_option maxHeartbeats 3200000 in
theorem c_iCarryOnce (c m : ByteArray) (hc : CV c = true) (hm : Mk m) (hs : m.size = c.size) (w : World) :
    Calls Try.prog 87 #[.string c, .string m] w fun e w' => e = .returned (.tuple #[.string (coB c m), .string (cmB c m), .bool true]) ∧ Below w.heap.size w w' := by
  obtain ⟨⟨z1, z2⟩, hd⟩ := CV_iff.1 hc
  have HD := hid (show Dg c from hd)
  have HC := hid hc
  have HM := hid hm
  have HS := hid hs
  obtain ⟨n, hn⟩ : ∃ n, c.size = n := ⟨_, rfl⟩
  have HN := hid hn
  have hcv1 := Lib.run_convert_string_bytes (P := Try.prog) w 9 31 5 c Try.underlying9 Try.underlying31 Try.underlying5
  have hb1 := bytes_below w 5 c
  have HG1 := hid (Lib.bytesWorld_at_new w 5 c)
  have hl1 := bytes_len w 5 c
  have HA1 := hid (fun j (hj : j < c.size) => bytes_at (w := w) (e := 5) hj)
  obtain ⟨C1, hC1⟩ : ∃ C, Lib.bytesCells w 5 c = C := ⟨_, rfl⟩
  rw [hC1] at HG1 hl1 HA1
  obtain ⟨k1, hk1⟩ : ∃ k, grownCap w c.size 0 5 = k := ⟨_, rfl⟩
  have hw1s := Lib.bytesWorld_size w 5 c
  obtain ⟨w1, hw1⟩ : ∃ x, Lib.bytesWorld w 5 c = x := ⟨_, rfl⟩
  rw [hk1, hw1] at hcv1
  rw [hw1] at hb1 HG1 hw1s
  rw [hn] at hcv1 hl1 HA1 z1 z2
  clear hc hm hs hd hC1 hk1 hw1
  go_enter Try.func87, Try.ntmps87
  go_wp2_with fail
  refine (c_marksFit c m HC.out HM.out HS.out _).mono ?_
  rintro e wx ⟨rfl, rfl⟩
  go_wp2_with fail
  clear hcv1
  refine (Try.strings_Repeat ⟨#[48]⟩ n w1 (by omega) (by show 1 * n ≤ _; omega)).mono ?_
  rintro e w2 ⟨rfl, b2⟩
  have hs2 := b2.size
  obtain ⟨Z, hZ⟩ : ∃ Z, (⟨(Lib.repeatL (⟨#[48]⟩ : ByteArray).data.toList n).toArray⟩ : ByteArray) = Z := ⟨_, rfl⟩
  have HZS := hid (show Z.size = n by rw [← hZ]; exact rep_size n)
  have HZN := hid (fun j (hj : j < n) => (show bN Z j = 48 by rw [← hZ]; exact rep_bN hj))
  rw [hZ]
  clear hZ
  replace HG1 := hid ((b2.block w.heap.size (by omega)).trans HG1.out)
  have HB2 := hid (hb1.trans (b2.mono hb1.size))
  have hs1 := hb1.size
  have hcv2 := Lib.run_convert_string_bytes (P := Try.prog) w2 9 31 5 Z Try.underlying9 Try.underlying31 Try.underlying5
  have hb3 := bytes_below w2 5 Z
  have HG2 := hid (Lib.bytesWorld_at_new w2 5 Z)
  have hl2 := bytes_len w2 5 Z
  have HA2 := hid (fun j (hj : j < Z.size) => bytes_at (w := w2) (e := 5) hj)
  obtain ⟨C2, hC2⟩ : ∃ C, Lib.bytesCells w2 5 Z = C := ⟨_, rfl⟩
  rw [hC2] at HG2 hl2 HA2
  obtain ⟨k2, hk2⟩ : ∃ k, grownCap w2 Z.size 0 5 = k := ⟨_, rfl⟩
  obtain ⟨w3, hw3⟩ : ∃ x, Lib.bytesWorld w2 5 Z = x := ⟨_, rfl⟩
  rw [hk2, hw3] at hcv2
  rw [hw3] at hb3 HG2
  rw [HZS.out] at hcv2 hl2 HA2
  replace HG1 := hid ((hb3.block w.heap.size (by omega)).trans HG1.out)
  have HB3 := hid (HB2.out.trans (hb3.mono HB2.out.size))
  have hne : w.heap.size ≠ w2.heap.size := by omega
  clear hb1 b2 hb3 hC2 hk2 hw3
  go_wp2
  clear hcv2
  go_loopw [9] (fun i wr => ∃ (j : Nat) (W M : Array Value), 1 ≤ j ∧ j ≤ n ∧ i = .int .i64 j ∧ Hid (wr.heap[w.heap.size]? = some (.cells W 5 (C1.size, C1.size + 1))) ∧ Hid (wr.heap[w2.heap.size]? = some (.cells M 5 (C2.size, C2.size + 1))) ∧ W.size = C1.size ∧ M.size = C2.size ∧ Hid (∀ k, k < n → W[k]? = some (.int .u8 (if k + 1 < j then el (twL c (upB m)) k else bN c k))) ∧ Hid (∀ k, k < n → M[k]? = some (.int .u8 (if k + 1 < j then el (wwL c (upB m)) k else 48))) ∧ Below w.heap.size w wr) (fun i _ => n - (intOf i).toNat)
  case atStart =>
    refine ⟨1, C1, C2, Nat.le_refl _, z1, rfl, HG1.out, HG2.out, rfl, rfl, fun k hk => ?_, fun k hk => ?_, HB3.out⟩
    · rw [if_neg (by omega)]; exact HA1.out k hk
    · rw [if_neg (by omega), HA2.out k hk, HZN.out k hk]
  case round =>
    obtain ⟨j, W, M, hj0, hj, rfl, HW, HMM, hWs, hMs, HWC, HMC, hbel⟩ := hrel
    obtain ⟨q, rfl⟩ : ∃ q, j = q + 1 := ⟨j - 1, by omega⟩
    by_cases hlt : q + 1 < n
    · have hlm : q + 1 < m.size := by rw [HS.out, HN.out]; exact hlt
      have q0 : (0 : Int) ≤ ((q + 1 : Nat) : Int) := by omega
      have q1 : ((q + 1 : Nat) : Int) < m.size := by omega
      have q2 : ((q + 1 : Nat) : Int) - 1 = (q : Int) := by omega
      have q3 : (q : Int) < n := by omega
      have q4 : (0 : Int) ≤ (q : Int) := by omega
      have q5 : q < n := by omega
      have w0 := HWC.out q q5
      rw [if_neg (by omega)] at w0
      have m0 := HMC.out q q5
      rw [if_neg (by omega)] at m0
      have c0 := (brow_cell HW.out q).trans w0
      have f0 := brow_free HW.out q (by omega)
      have c1 := (brow_cell HMM.out q).trans m0
      have f1 := brow_free HMM.out q (by omega)
      have hd := HD.out q (by rw [HN.out]; exact q5)
      obtain ⟨d0, d1⟩ := hd
      have hsW : q < W.size := by omega
      have hsM : q < M.size := by omega
      have hmk := HM.out (q + 1) hlm
      rcases hmk with hm0 | hm1
      · have HE := hid (co_no (q := q) HD.out HM.out HS.out (by rw [HN.out]; exact q5) (fun _ => hm0))
        rw [bN_eq hlm] at hm0
        have t1 : (((m[q + 1]'hlm).toNat : Int) != 49) = true := by rw [hm0]; rfl
        clear hm0
        go_wp2
        go_roundw
        case rel =>
          refine ⟨q + 1 + 1, W, M, by omega, by omega, by go_num, HW.out, HMM.out, hWs, hMs, fun k hk => ?_, fun k hk => ?_, hbel⟩
          · rw [HWC.out k hk]
            by_cases e : k = q
            · subst e; rw [if_neg (by omega), if_pos (by omega), HE.out.1]
            · by_cases e2 : k + 1 < q + 1
              · rw [if_pos e2, if_pos (by omega)]
              · rw [if_neg e2, if_neg (by omega)]
          · rw [HMC.out k hk]
            by_cases e : k = q
            · subst e; rw [if_neg (by omega), if_pos (by omega), HE.out.2]
            · by_cases e2 : k + 1 < q + 1
              · rw [if_pos e2, if_pos (by omega)]
              · rw [if_neg e2, if_neg (by omega)]
        case measure => simp [intOf]; omega
      · have HE := hid (co_yes (q := q) HM.out HS.out (by rw [HN.out]; exact hlt) hm1)
        rw [bN_eq hlm] at hm1
        have t1 : (((m[q + 1]'hlm).toNat : Int) != 49) = false := by rw [hm1]; rfl
        clear hm1
        obtain ⟨D, hD⟩ : ∃ D, bN c q = D := ⟨_, rfl⟩
        rw [hD] at c0 d0 d1 HE
        have HDD := hid hD
        clear hD w0 m0
        by_cases h9 : D = 57
        · subst h9
          have t2 : ((57 : Int) == 57) = true := rfl
          have HMM2 := hid ((Below.heap_setCell wr ⟨w.heap.size, q, none⟩ (.int .u8 48) w2.heap.size (Ne.symm hne)).trans HMM.out)
          have c2 := (brow_cell HMM2.out q).trans (HMC.out q q5)
          rw [if_neg (by omega)] at c2
          have f2 := brow_free HMM2.out q (by omega)
          go_wp2
          go_roundw
          case rel =>
            refine ⟨q + 1 + 1, _, _, by omega, by omega, by go_num, (Below.heap_setCell _ ⟨w2.heap.size, q, none⟩ (.int .u8 49) w.heap.size hne).trans (brow_set HW.out q (.int .u8 48)), brow_set HMM2.out q (.int .u8 49), by simpa using hWs, by simpa using hMs, fun k hk => ?_, fun k hk => ?_, (hbel.setCell (p := ⟨w.heap.size, q, none⟩) (Nat.le_refl _) _).setCell (p := ⟨w2.heap.size, q, none⟩) (show w.heap.size ≤ w2.heap.size by omega) _⟩
            · by_cases e : k = q
              · subst e; rw [Array.getElem?_setIfInBounds, if_pos rfl, if_pos hsW, if_pos (by omega), HE.out.1]; rfl
              · rw [Array.getElem?_setIfInBounds, if_neg (by omega), HWC.out k hk]
                by_cases e2 : k + 1 < q + 1
                · rw [if_pos e2, if_pos (by omega)]
                · rw [if_neg e2, if_neg (by omega)]
            · by_cases e : k = q
              · subst e; rw [Array.getElem?_setIfInBounds, if_pos rfl, if_pos hsM, if_pos (by omega), HE.out.2]; rfl
              · rw [Array.getElem?_setIfInBounds, if_neg (by omega), HMC.out k hk]
                by_cases e2 : k + 1 < q + 1
                · rw [if_pos e2, if_pos (by omega)]
                · rw [if_neg e2, if_neg (by omega)]
          case measure => simp [intOf]; omega
        · have t2 : (D == 57) = false := by simpa using h9
          have k5 : IntKind.u8.wrap (D + 1) = D + 1 := IntWalk.u8_in _ (by omega)
          have HV := hid (show 48 + (D - 48 + 1) % 10 = D + 1 ∧ 48 + (D - 48 + 1) / 10 = 48 by omega)
          clear h9
          go_wp2
          go_roundw
          case rel =>
            refine ⟨q + 1 + 1, _, M, by omega, by omega, by go_num, brow_set HW.out q _, (Below.heap_setCell _ ⟨w.heap.size, q, none⟩ _ w2.heap.size (Ne.symm hne)).trans HMM.out, by simpa using hWs, hMs, fun k hk => ?_, fun k hk => ?_, hbel.setCell (p := ⟨w.heap.size, q, none⟩) (Nat.le_refl _) _⟩
            · by_cases e : k = q
              · subst e; rw [Array.getElem?_setIfInBounds, if_pos rfl, if_pos hsW, if_pos (by omega), HE.out.1, HV.out.1]
              · rw [Array.getElem?_setIfInBounds, if_neg (by omega), HWC.out k hk]
                by_cases e2 : k + 1 < q + 1
                · rw [if_pos e2, if_pos (by omega)]
                · rw [if_neg e2, if_neg (by omega)]
            · rw [HMC.out k hk]
              by_cases e : k = q
              · subst e; rw [if_neg (by omega), if_pos (by omega), HE.out.2, HV.out.2]
              · by_cases e2 : k + 1 < q + 1
                · rw [if_pos e2, if_pos (by omega)]
                · rw [if_neg e2, if_neg (by omega)]
          case measure => simp [intOf]; omega
    · obtain rfl : n = q + 1 := by omega
      have HL := hid (co_no (c := c) (m := m) (q := q) HD.out HM.out HS.out (by rw [HN.out]; omega) (fun h => by rw [HN.out] at h; omega))
      have HX := hid (show ∀ k, k < q + 1 → W[k]? = some (.int .u8 (el (twL c (upB m)) k)) from fun k hk => by
        rw [HWC.out k hk]
        by_cases e : k = q
        · subst e; rw [if_neg (by omega), HL.out.1]
        · rw [if_pos (by omega)])
      have HY := hid (show ∀ k, k < q + 1 → M[k]? = some (.int .u8 (el (wwL c (upB m)) k)) from fun k hk => by
        rw [HMC.out k hk]
        by_cases e : k = q
        · subst e; rw [if_neg (by omega), HL.out.2]
        · rw [if_pos (by omega)])
      have HCV1 := hid (fun (W' : World) (hW : W'.heap = wr.heap) => run_convert_bytes_arg (P := Try.prog) W' 31 5 Try.underlying31 Try.underlying5 w.heap.size 0 (q + 1) k1 (twL c (upB m)) (by rw [twL_len, HN.out]) (fun i hi => by
        rw [Nat.zero_add, brow_cell (by rw [hW]; exact HW.out), HX.out i hi]
        rfl) 9 Try.underlying9)
      have HCV2 := hid (fun (W' : World) (hW : W'.heap = wr.heap) => run_convert_bytes_arg (P := Try.prog) W' 31 5 Try.underlying31 Try.underlying5 w2.heap.size 0 (q + 1) k2 (wwL c (upB m)) (by rw [wwL_len, HN.out]) (fun i hi => by
        rw [Nat.zero_add, brow_cell (by rw [hW]; exact HMM.out), HY.out i hi]
        rfl) 9 Try.underlying9)
      have e1 := HCV1.out wr.drew rfl
      have e2 := HCV2.out wr.drew rfl
      go_wp2_with fail
      refine wp_region_held_drew (S := fun W' => (convert 31 9 (.slice (some ⟨w.heap.size, 0, none⟩) (q + 1) k1)).run Try.prog W' = .ok (.string (strOfNums (twL c (upB m)))) W' ∧ (convert 31 9 (.slice (some ⟨w2.heap.size, 0, none⟩) (q + 1) k2)).run Try.prog W' = .ok (.string (strOfNums (wwL c (upB m)))) W') (by kernel_rfl) ?_ (fun hHeld => ?_)
      focus (exact ⟨e1, e2⟩)
      refine take_at (i := 0) (d := some 51) (v := ?_) rfl rfl (by kernel_rfl) (by kernel_rfl) (by kernel_rfl) ?_ (Or.inl ⟨by rfl, ?_⟩) (by assumption) ?_
      rotate_left
      exact fun _ _ _ h => h
      focus (intro w hSw; (try dsimp only at hSw); go_simp; (try with_reducible rfl); done)
      (try simp only [Act.put, List.setIfInBounds_toArray, List.set_cons_zero, List.set_cons_succ])
      refine take_at (i := 1) (d := some 52) (v := ?_) rfl rfl (by kernel_rfl) (by kernel_rfl) (by kernel_rfl) ?_ (Or.inl ⟨by rfl, ?_⟩) (by assumption) ?_
      rotate_left
      exact fun _ _ _ h => h
      focus (intro w hSw; (try dsimp only at hSw); go_simp; (try with_reducible rfl); done)
      (try simp only [Act.put, List.setIfInBounds_toArray, List.set_cons_zero, List.set_cons_succ])
      refine take_at (i := 2) (d := some 53) (v := ?_) rfl rfl (by kernel_rfl) (by kernel_rfl) (by kernel_rfl) ?_ (Or.inl ⟨by rfl, ?_⟩) (by assumption) ?_
      rotate_left
      exact fun _ _ _ h => h
      focus (intro w hSw; (try dsimp only at hSw); go_simp; (try with_reducible rfl); done)
      (try simp only [Act.put, List.setIfInBounds_toArray, List.set_cons_zero, List.set_cons_succ])
      refine take_at (i := 3) (d := some 54) (v := ?_) rfl rfl (by kernel_rfl) (by kernel_rfl) (by kernel_rfl) ?_ (Or.inl ⟨by rfl, ?_⟩) (by assumption) ?_
      rotate_left
      exact fun _ _ _ h => h
      focus (intro w hSw; (try dsimp only at hSw); go_simp; (try with_reducible rfl); done)
      (try simp only [Act.put, List.setIfInBounds_toArray, List.set_cons_zero, List.set_cons_succ])
      refine take_at (i := 4) (d := some 4) (v := ?_) rfl rfl (by kernel_rfl) (by kernel_rfl) (by kernel_rfl) ?_ (Or.inl ⟨by rfl, ?_⟩) (by assumption) ?_
      rotate_left
      exact fun _ _ _ h => h
      focus (intro w hSw; (try dsimp only at hSw); go_simp; (try with_reducible rfl); done)
      (try simp only [Act.put, List.setIfInBounds_toArray, List.set_cons_zero, List.set_cons_succ])
      refine take_at (i := 5) (d := some 5) (v := ?_) rfl rfl (by kernel_rfl) (by kernel_rfl) (by kernel_rfl) ?_ (Or.inl ⟨by rfl, ?_⟩) (by assumption) ?_
      rotate_left
      exact fun _ _ _ h => h
      focus (intro w hSw; (try dsimp only at hSw); go_simp; (try with_reducible rfl); done)
      (try simp only [Act.put, List.setIfInBounds_toArray, List.set_cons_zero, List.set_cons_succ])
      refine take_at (i := 6) (d := some 6) (v := ?_) rfl rfl (by kernel_rfl) (by kernel_rfl) (by kernel_rfl) ?_ (Or.inl ⟨by rfl, ?_⟩) (by assumption) ?_
      rotate_left
      exact fun _ _ _ h => h
      focus (intro w hSw; (try dsimp only at hSw); go_simp; (try with_reducible rfl); done)
      (try simp only [Act.put, List.setIfInBounds_toArray, List.set_cons_zero, List.set_cons_succ])
      refine wpAnyH_done (by kernel_rfl) ?_ _
      go_wp2
      (try simp only [Exit.inBlock, Exit.then])
      refine bodyPost_ret (v := .tuple #[.string (coB c m), .string (cmB c m), .bool true]) ?_ rfl ?_
      · simp [results]; (try exact ⟨rfl, rfl⟩)
      · exact ⟨rfl, hbel.drew⟩
theorem c_l1Up (m : ByteArray) (hm : Mk m) (h0 : 1 ≤ m.size) (h1 : m.size ≤ 12) (w : World) :
    Calls Try.prog 103 #[.string m] w fun e w' => e = .returned (.string (upB m)) ∧ w = w' := by
  have HU := hid (up_eq hm.dg (by omega))
  have q1 : (1 : Int) ≤ (m.size : Int) := by omega
  have q2 : (m.extract 1 m.size).size = m.size - 1 := by rw [ByteArray.size_extract]; omega
  have z0 : ¬ 9223372036854775807 < (m.extract 1 m.size).size + 1 := by omega
  have z1 : ¬ 9223372036854775807 < (m.extract 1 m.size).size + (⟨#[48]⟩ : ByteArray).size := z0
  have z2 : ¬ 9223372036854775807 < m.size - 1 + 1 := by omega
  go_enter Try.func103, Try.ntmps103
  go_wp2
  go_ret
  exact ⟨by rw [← HU.out]; rfl, rfl⟩
theorem c_sCarryOnce (c m : ByteArray) (hc : CV c = true) (hm : Mk m) (hs : m.size = c.size) (w : World) :
    Calls Try.prog 96 #[.string c, .string m] w fun e w' => e = .returned (.tuple #[.string (coB c m), .string (cmB c m), .bool true]) ∧ Below w.heap.size w w' := by
  obtain ⟨z1, z2⟩ := (CV_iff.1 hc).1
  have HC := hid hc
  have HM := hid hm
  have HS := hid hs
  have HU := hid (upB_mk hm)
  have HUC := hid ((upB_mk hm).dg.cv (by rw [upB_size]; omega) (by rw [upB_size]; omega))
  have hus := upB_size m
  clear hc hm
  go_enter Try.func96, Try.ntmps96
  go_wp2_with fail
  refine (c_l1Flags c m HC.out HM.out HS.out _).mono ?_
  rintro e wx ⟨rfl, rfl⟩
  go_wp2_with fail
  refine (c_l1Up m HM.out (by omega) (by omega) _).mono ?_
  rintro e wx ⟨rfl, rfl⟩
  go_wp2_with fail
  refine (c_sTurnWheels c (upB m) HC.out HUC.out (by omega) _).mono ?_
  rintro e w1 ⟨rfl, b1⟩
  go_wp2_with fail
  refine (c_l1Up m HM.out (by omega) (by omega) _).mono ?_
  rintro e wx ⟨rfl, rfl⟩
  go_wp2_with fail
  refine (c_sWarnedWheels c (upB m) HC.out HUC.out (by omega) _).mono ?_
  rintro e w2 ⟨rfl, b2⟩
  go_wp2
  (try simp only [Exit.inBlock, Exit.then])
  refine bodyPost_ret (v := .tuple #[.string (coB c m), .string (cmB c m), .bool true]) ?_ rfl ?_
  · simp [results]; exact ⟨rfl, rfl⟩
  · exact ⟨rfl, b1.trans (b2.mono b1.size)⟩
end Go.Proofs.Ytkaanlldjkflaaa
