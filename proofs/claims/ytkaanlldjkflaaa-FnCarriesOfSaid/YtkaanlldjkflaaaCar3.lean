/- What is proved here: contracts of CarryAll, CarryTimes and CarriesOf (impl and spec). -/
import Derived.Test.YtkaanlldjkflaaaCar2
set_option linter.unusedVariables false
set_option linter.unusedSimpArgs false
set_option maxRecDepth 100000
namespace Go.Proofs.Ytkaanlldjkflaaa
open Go.RowKit

theorem c_CloneS (s : ByteArray) (w : World) (h : s.size ≤ 281474976710656) :
    Calls Try.prog 88 #[.string s] w fun e w' => e = .returned (.string s) ∧ Below w.heap.size w w' := by
  have HC := hid (Try.stringslite_Clone s w h)
  go_enter Try.func88, Try.ntmps88
  go_wp2_with fail
  refine HC.out.mono ?_
  rintro e w1 ⟨rfl, b⟩
  go_wp2
  go_ret
  exact ⟨rfl, b⟩
/-- What is left by a call that carries until no wheel is warned. -/
def RetCA (w : World) (N : Nat) (e : Ending) (w' : World) : Prop := ∃ s : ByteArray, e = .returned (.tuple #[.string s, .int .i64 N, .bool true]) ∧ Below w.heap.size w w'
set_option maxHeartbeats 1600000 in
theorem c_iCarryAll (c m : ByteArray) (hc : CV c = true) (hm : Mk m) (hs : m.size = c.size) (w : World) :
    Calls Try.prog 65 #[.string c, .string m] w (RetCA w (crN c.size c m)) := by
  obtain ⟨z1, z2⟩ := (CV_iff.1 hc).1
  have HST := hid (CrS.start hs.symm (CV_dg hc) hm)
  have HC := hid hc
  have HM := hid hm
  have HS := hid hs
  obtain ⟨n, hn⟩ : ∃ n, c.size = n := ⟨_, rfl⟩
  obtain ⟨T, hT⟩ : ∃ T, crN c.size c m = T := ⟨_, rfl⟩
  rw [hT, hn] at HST
  rw [hT]
  rw [hn] at z1 z2
  clear hc hm hs hT hn
  go_enter Try.func65, Try.ntmps65
  go_wp2_with fail
  refine (c_marksFit c m HC.out HM.out HS.out _).mono ?_
  rintro e wx ⟨rfl, rfl⟩
  go_wp2
  go_loopw [0, 1, 7] (fun x y i wr => ∃ (j : Nat) (d k : ByteArray), i = .int .i64 j ∧ x = .string d ∧ y = .string k ∧ Hid (CrS n T j d k) ∧ j ≤ n ∧ Below w.heap.size w wr) (fun _ _ i _ => n - (intOf i).toNat)
  case atStart => exact ⟨0, c, m, rfl, rfl, rfl, HST.out, Nat.zero_le _, Below.refl _ _⟩
  case round =>
    obtain ⟨j, d, k, rfl, rfl, rfl, HX, hjn, hbel⟩ := hrel
    have hds : d.size = n := HX.out.1
    have hks : k.size = n := HX.out.2.1
    have HDC := hid (HX.out.2.2.1.cv (by omega) (by omega))
    have HKM := hid HX.out.2.2.2.1
    cases hz : zrB k with
    | true =>
      have HF := hid (HX.out.fin hz)
      have HO := hid (show decide (0 ≤ Lib.indexByte k.data.toList 49) = false by rw [has_one HKM.out, hz]; rfl)
      clear hz
      go_wp2_with fail
      refine (Try.strings_Contains_one k 49 wr).mono ?_
      rw [HO.out]
      rintro e wx ⟨rfl, rfl⟩
      go_wp2_with fail
      refine (c_CloneS d _ (by omega)).mono ?_
      rintro e w2 ⟨rfl, b2⟩
      go_wp2
      (try simp only [Exit.inBlock, Exit.then])
      refine bodyPost_ret (v := .tuple #[.string d, .int .i64 j, .bool true]) ?_ rfl ?_
      · simp [results]
      · exact ⟨d, by rw [HF.out], hbel.trans (b2.mono hbel.size)⟩
    | false =>
      have hlt := HX.out.lt hz
      have HN := hid (HX.out.step hz)
      have HO := hid (show decide (0 ≤ Lib.indexByte k.data.toList 49) = true by rw [has_one HKM.out, hz]; rfl)
      clear hz
      go_wp2_with fail
      refine (Try.strings_Contains_one k 49 wr).mono ?_
      rw [HO.out]
      rintro e wx ⟨rfl, rfl⟩
      go_wp2_with fail
      refine (c_iCarryOnce d k HDC.out HKM.out (by omega) _).mono ?_
      rintro e w2 ⟨rfl, b2⟩
      go_wp2
      go_roundw
      case rel => exact ⟨j + 1, _, _, by go_num, rfl, rfl, HN.out, hlt, hbel.trans (b2.mono hbel.size)⟩
      case measure => simp [intOf]; omega
set_option maxHeartbeats 1600000 in
theorem c_sCarryAll (c m : ByteArray) (hc : CV c = true) (hm : Mk m) (hs : m.size = c.size) (w : World) :
    Calls Try.prog 84 #[.string c, .string m] w (RetCA w (crN c.size c m)) := by
  obtain ⟨z1, z2⟩ := (CV_iff.1 hc).1
  have HST := hid (CrS.start hs.symm (CV_dg hc) hm)
  have HC := hid hc
  have HM := hid hm
  have HS := hid hs
  obtain ⟨n, hn⟩ : ∃ n, c.size = n := ⟨_, rfl⟩
  obtain ⟨T, hT⟩ : ∃ T, crN c.size c m = T := ⟨_, rfl⟩
  rw [hT, hn] at HST
  rw [hT]
  rw [hn] at z1 z2
  clear hc hm hs hT hn
  go_enter Try.func84, Try.ntmps84
  go_wp2_with fail
  refine (c_l1Flags c m HC.out HM.out HS.out _).mono ?_
  rintro e wx ⟨rfl, rfl⟩
  go_wp2
  go_loopw [0, 1, 7] (fun x y i wr => ∃ (j : Nat) (d k : ByteArray), i = .int .i64 j ∧ x = .string d ∧ y = .string k ∧ Hid (CrS n T j d k) ∧ j ≤ n ∧ Below w.heap.size w wr) (fun _ _ i _ => n - (intOf i).toNat)
  case atStart => exact ⟨0, c, m, rfl, rfl, rfl, HST.out, Nat.zero_le _, Below.refl _ _⟩
  case round =>
    obtain ⟨j, d, k, rfl, rfl, rfl, HX, hjn, hbel⟩ := hrel
    have hds : d.size = n := HX.out.1
    have hks : k.size = n := HX.out.2.1
    have HDC := hid (HX.out.2.2.1.cv (by omega) (by omega))
    have HKM := hid HX.out.2.2.2.1
    have HKC := hid (HKM.out.dg.cv (by omega) (by omega))
    have hvb := (vl_bd HKC.out).1
    cases hz : zrB k with
    | true =>
      have HF := hid (HX.out.fin hz)
      have hv0 : vl k = 0 := (vl_zero HKM.out.dg).2 hz
      have t1 : ¬ vl k > 0 := by omega
      clear hz hv0
      go_wp2_with fail
      refine (c_l1Value k HKC.out _).mono ?_
      rintro e wx ⟨rfl, rfl⟩
      go_wp2
      (try simp only [Exit.inBlock, Exit.then])
      refine bodyPost_ret (v := .tuple #[.string d, .int .i64 j, .bool true]) ?_ rfl ?_
      · simp [results]
      · exact ⟨d, by rw [HF.out], hbel⟩
    | false =>
      have hlt := HX.out.lt hz
      have HN := hid (HX.out.step hz)
      have hv0 : vl k ≠ 0 := fun h => by rw [(vl_zero HKM.out.dg).1 h] at hz; cases hz
      have t1 : vl k > 0 := by omega
      clear hz hv0
      go_wp2_with fail
      refine (c_l1Value k HKC.out _).mono ?_
      rintro e wx ⟨rfl, rfl⟩
      go_wp2_with fail
      refine (c_sCarryOnce d k HDC.out HKM.out (by omega) _).mono ?_
      rintro e w2 ⟨rfl, b2⟩
      go_wp2
      go_roundw
      case rel => exact ⟨j + 1, _, _, by go_num, rfl, rfl, HN.out, hlt, hbel.trans (b2.mono hbel.size)⟩
      case measure => simp [intOf]; omega
theorem ct_facts {a b : ByteArray} (ha : CV a = true) (hb : CV b = true) (hs : a.size = b.size) : CV (twB a b) = true ∧ Mk (wwB a b) ∧ (wwB a b).size = (twB a b).size ∧ crN (twB a b).size (twB a b) (wwB a b) = ctN a b ∧ ctN a b ≤ 12 := by
  have hz := (CV_iff.1 ha).1
  refine ⟨(twB_dg a b).cv (by rw [twB_size]; exact hz.1) (by rw [twB_size]; exact hz.2), wwB_mk (CV_dg ha) (CV_dg hb) hs, by rw [wwB_size, twB_size], by rw [twB_size]; rfl, ?_⟩
  have := ctN_le a b
  omega
theorem c_iCarryTimes (a b : ByteArray) (ha : CV a = true) (hb : CV b = true) (hs : a.size = b.size) (w : World) :
    Calls Try.prog 30 #[.string a, .string b] w fun e w' => e = .returned (.int .i64 (ctN a b : Nat)) ∧ Below w.heap.size w w' := by
  obtain ⟨f1, f2, f3, f4, -⟩ := ct_facts ha hb hs
  have HA := hid ha
  have HB := hid hb
  have HS := hid hs
  have H1 := hid f1
  have H2 := hid f2
  have H3 := hid f3
  have H4 := hid f4
  clear ha hb hs f1 f2 f3 f4
  go_enter Try.func30, Try.ntmps30
  go_wp2_with fail
  refine (c_iTurnWheels a b HA.out HB.out HS.out _).mono ?_
  rintro e w1 ⟨rfl, b1⟩
  go_wp2_with fail
  refine (c_iWarnedWheels a b HA.out HB.out HS.out _).mono ?_
  rintro e w2 ⟨rfl, b2⟩
  go_wp2_with fail
  refine (c_iCarryAll _ _ H1.out H2.out H3.out _).mono ?_
  rw [H4.out]
  rintro e w3 ⟨s, rfl, b3⟩
  go_wp2
  go_ret
  have b4 := b1.trans (b2.mono b1.size)
  exact ⟨rfl, b4.trans (b3.mono b4.size)⟩
theorem c_sCarryTimes (a b : ByteArray) (ha : CV a = true) (hb : CV b = true) (hs : a.size = b.size) (w : World) :
    Calls Try.prog 61 #[.string a, .string b] w fun e w' => e = .returned (.int .i64 (ctN a b : Nat)) ∧ Below w.heap.size w w' := by
  obtain ⟨f1, f2, f3, f4, -⟩ := ct_facts ha hb hs
  have HA := hid ha
  have HB := hid hb
  have HS := hid hs
  have H1 := hid f1
  have H2 := hid f2
  have H3 := hid f3
  have H4 := hid f4
  clear ha hb hs f1 f2 f3 f4
  go_enter Try.func61, Try.ntmps61
  go_wp2_with fail
  refine (c_sTurnWheels a b HA.out HB.out HS.out _).mono ?_
  rintro e w1 ⟨rfl, b1⟩
  go_wp2_with fail
  refine (c_sWarnedWheels a b HA.out HB.out HS.out _).mono ?_
  rintro e w2 ⟨rfl, b2⟩
  go_wp2_with fail
  refine (c_sCarryAll _ _ H1.out H2.out H3.out _).mono ?_
  rw [H4.out]
  rintro e w3 ⟨s, rfl, b3⟩
  go_wp2
  go_ret
  have b4 := b1.trans (b2.mono b1.size)
  exact ⟨rfl, b4.trans (b3.mono b4.size)⟩
theorem max_nat (a b : Nat) : (if (a : Int) ≤ (b : Int) then (b : Int) else (a : Int)) = ((max a b : Nat) : Int) := by
  split <;> omega
set_option maxHeartbeats 1600000 in
theorem c_iCarriesOf (v : Value) (cs : List ByteArray) (w : World) (hv : IsT w w.heap.size v cs) :
    Calls Try.prog 27 #[.agg #[v]] w fun e w' => e = .returned (.int .i64 (crF cs)) ∧ Below w.heap.size w w' := by
  obtain ⟨av, cv, hav⟩ : ∃ a cap, v = .slice a cs.length cap := ⟨_, _, hv.choose_spec.choose_spec.1⟩
  subst hav
  have bX := RetRow.e1 w (.cells #[.slice av cs.length cv] 27)
  have x0 := eng_cell w (.slice av cs.length cv) 27
  have hxB := (hv.below bX (Nat.le_refl _)).up bX.size
  obtain ⟨wB, hwB⟩ : ∃ y, w.alloc (.cells #[.slice av cs.length cv] 27) = y := ⟨_, rfl⟩
  rw [hwB] at x0 hxB bX
  have l0 := World.block_lt_of_cell? _ _ x0
  have HK := hid (fun (w' : World) (hb : Below wB.heap.size wB w') => (hb.cell (p := ⟨w.heap.size, 0, none⟩) l0).trans x0)
  have HI := hid (fun (w' : World) (hb : Below wB.heap.size wB w') => (hxB.below hb (Nat.le_refl _)).up hb.size)
  have HBX := hid bX
  have b := Below.refl wB.heap.size wB
  clear hv l0 bX hxB
  cases he : EGV cs with
  | false =>
    have HE := hid he
    have HR := hid (crF_no he)
    clear he
    go_enter Try.func27, Try.ntmps27
    go_wp2_with fail
    clear hwB x0
    refine (c_iEngineValid _ cs _ (HI.out _ b)).mono ?_
    rw [HE.out]
    rintro e w2 ⟨rfl, c⟩
    go_wp2
    go_ret
    exact ⟨by rw [HR.out]; rfl, HBX.out.trans (c.mono HBX.out.size)⟩
  | true =>
    have HE := hid he
    have HR := hid (crF_yes he)
    obtain ⟨⟨n1, n7⟩, hcs⟩ := EGV_iff.1 he
    have HCS := hid hcs
    clear he hcs
    go_enter Try.func27, Try.ntmps27
    go_wp2_with fail
    clear hwB x0
    refine (c_iEngineValid _ cs _ (HI.out _ b)).mono ?_
    rw [HE.out]
    rintro e w2 ⟨rfl, c⟩
    have b2 := hid (b.trans (c.mono b.size))
    clear c b
    go_wp2
    go_loopw [3, 4] (fun x i wr => ∃ (j : Nat) (X : Int), j ≤ cs.length - 1 ∧ i = .int .i64 j ∧ x = .int .i64 X ∧ Hid (X = (mxC cs j : Nat)) ∧ Below wB.heap.size wB wr) (fun _ i _ => cs.length - (intOf i).toNat)
    case atStart => exact ⟨0, 0, Nat.zero_le _, rfl, rfl, rfl, b2.out⟩
    case round =>
      obtain ⟨j, X, hj, rfl, rfl, HX, hb⟩ := hrel
      have x0 := HK.out _ hb
      have hX0 : 0 ≤ X := by rw [HX.out]; omega
      have hX1 : X ≤ 12 := by
        have h := mxC_le (cs := cs) (n := 12) j fun i hi => (CV_iff.1 (HCS.out i (by omega)).1).1.2
        rw [HX.out]; omega
      by_cases hlt : j + 1 < cs.length
      · obtain ⟨aI, cI, hvI, -, hcI⟩ := HI.out _ hb
        simp only [Value.slice.injEq, true_and] at hvI
        obtain ⟨rfl, rfl⟩ := hvI
        obtain ⟨bk, off, rfl, hbk, g0, -⟩ := hcI j (by omega)
        obtain ⟨bk2, off2, e2, hbk2, g1, -⟩ := hcI (j + 1) hlt
        simp only [Option.some.injEq, Addr.mk.injEq, and_true] at e2
        obtain ⟨rfl, rfl⟩ := e2
        have q0 : (0 : Int) ≤ (j : Int) := by omega
        have q1 : (j : Int) < cs.length := by omega
        have q2 : (j : Int) + 1 < cs.length := by omega
        have q3 : (0 : Int) ≤ (j : Int) + 1 := by omega
        have q4 : ((j : Int) + 1).toNat = j + 1 := by omega
        have q5 : IntKind.i64.wrap ((j : Int) + 1) = (j : Int) + 1 := IntWalk.i64_in _ (by omega)
        have q6 : j + 1 < cs.length := hlt
        have q7 : j < cs.length := by omega
        have hv1 := HCS.out j (by omega)
        have hv2 := HCS.out (j + 1) hlt
        have HCT := hid (fun W => c_iCarryTimes (tC cs j) (tC cs (j + 1)) hv1.1 hv2.1 (hv1.2.trans hv2.2.symm) W)
        have hct := (ct_facts hv1.1 hv2.1 (hv1.2.trans hv2.2.symm)).2.2.2.2
        obtain ⟨N, hN⟩ : ∃ N, ctN (tC cs j) (tC cs (j + 1)) = N := ⟨_, rfl⟩
        rw [hN] at HCT hct
        have HMX := hid (show mxC cs (j + 1) = max (mxC cs j) N by rw [← hN]; rfl)
        clear hN hv1 hv2 hcI
        have HV := hid (show max X (N : Int) = (mxC cs (j + 1) : Nat) by rw [HMX.out]; have := HX.out; omega)
        go_wp2_with fail
        refine wp_region_held_drew (S := fun w' => w'.cell? ⟨w.heap.size, 0, none⟩ = some (.slice (some ⟨bk, off, none⟩) cs.length cv) ∧ w'.cell? ⟨bk, off + j, none⟩ = some (.string (tC cs j)) ∧ w'.cell? ⟨bk, off + (j + 1), none⟩ = some (.string (tC cs (j + 1)))) (by kernel_rfl) ?_ (fun hHeld => ?_)
        focus (exact ⟨x0, g0, g1⟩)
        refine take_at (i := 0) (d := some 16) (v := ?_) rfl rfl (by kernel_rfl) (by kernel_rfl) (by kernel_rfl) ?_ (Or.inl ⟨by rfl, ?_⟩) (by assumption) ?_
        rotate_left
        exact fun _ _ _ h => h
        focus (intro w hSw; (try dsimp only at hSw); go_simp; (try with_reducible rfl); done)
        (try simp only [Act.put, List.setIfInBounds_toArray, List.set_cons_zero, List.set_cons_succ])
        refine take_at (i := 1) (d := some 17) (v := ?_) rfl rfl (by kernel_rfl) (by kernel_rfl) (by kernel_rfl) ?_ (Or.inl ⟨by rfl, ?_⟩) (by assumption) ?_
        rotate_left
        exact fun _ _ _ h => h
        focus (intro w hSw; (try dsimp only at hSw); go_simp; (try with_reducible rfl); done)
        (try simp only [Act.put, List.setIfInBounds_toArray, List.set_cons_zero, List.set_cons_succ])
        refine take_at (i := 2) (d := some 18) (v := ?_) rfl rfl (by kernel_rfl) (by kernel_rfl) (by kernel_rfl) ?_ (Or.inl ⟨by rfl, ?_⟩) (by assumption) ?_
        rotate_left
        exact fun _ _ _ h => h
        focus (intro w hSw; (try dsimp only at hSw); go_simp; (try with_reducible rfl); done)
        (try simp only [Act.put, List.setIfInBounds_toArray, List.set_cons_zero, List.set_cons_succ])
        refine take_at (i := 3) (d := some 19) (v := ?_) rfl rfl (by kernel_rfl) (by kernel_rfl) (by kernel_rfl) ?_ (Or.inl ⟨by rfl, ?_⟩) (by assumption) ?_
        rotate_left
        exact fun _ _ _ h => h
        focus (intro w hSw; (try dsimp only at hSw); go_simp; (try with_reducible rfl); done)
        (try simp only [Act.put, List.setIfInBounds_toArray, List.set_cons_zero, List.set_cons_succ])
        refine take_at (i := 4) (d := some 20) (v := ?_) rfl rfl (by kernel_rfl) (by kernel_rfl) (by kernel_rfl) ?_ (Or.inl ⟨by rfl, ?_⟩) (by assumption) ?_
        rotate_left
        exact fun _ _ _ h => h
        focus (intro w hSw; (try dsimp only at hSw); go_simp; (try with_reducible rfl); done)
        (try simp only [Act.put, List.setIfInBounds_toArray, List.set_cons_zero, List.set_cons_succ])
        refine take_at (i := 5) (d := some 21) (v := ?_) rfl rfl (by kernel_rfl) (by kernel_rfl) (by kernel_rfl) ?_ (Or.inl ⟨by rfl, ?_⟩) (by assumption) ?_
        rotate_left
        exact fun _ _ _ h => h
        focus (intro w hSw; (try dsimp only at hSw); go_simp; (try with_reducible rfl); done)
        (try simp only [Act.put, List.setIfInBounds_toArray, List.set_cons_zero, List.set_cons_succ])
        refine take_at (i := 6) (d := some 22) (v := ?_) rfl rfl (by kernel_rfl) (by kernel_rfl) (by kernel_rfl) ?_ (Or.inl ⟨by rfl, ?_⟩) (by assumption) ?_
        rotate_left
        exact fun _ _ _ h => h
        focus (intro w hSw; (try dsimp only at hSw); go_simp; (try with_reducible rfl); done)
        (try simp only [Act.put, List.setIfInBounds_toArray, List.set_cons_zero, List.set_cons_succ])
        refine take_at (i := 7) (d := some 23) (v := ?_) rfl rfl (by kernel_rfl) (by kernel_rfl) (by kernel_rfl) ?_ (Or.inl ⟨by rfl, ?_⟩) (by assumption) ?_
        rotate_left
        exact fun _ _ _ h => h
        focus (intro w hSw; (try dsimp only at hSw); go_simp; (try with_reducible rfl); done)
        (try simp only [Act.put, List.setIfInBounds_toArray, List.set_cons_zero, List.set_cons_succ])
        refine take_at (i := 8) (d := some 24) (v := ?_) rfl rfl (by kernel_rfl) (by kernel_rfl) (by kernel_rfl) ?_ (Or.inl ⟨by rfl, ?_⟩) (by assumption) ?_
        rotate_left
        exact fun _ _ _ h => h
        focus (intro w hSw; (try dsimp only at hSw); go_simp; (try with_reducible rfl); done)
        (try simp only [Act.put, List.setIfInBounds_toArray, List.set_cons_zero, List.set_cons_succ])
        refine take_at (i := 9) (d := some 25) (v := ?_) rfl rfl (by kernel_rfl) (by kernel_rfl) (by kernel_rfl) ?_ (Or.inl ⟨by rfl, ?_⟩) (by assumption) ?_
        rotate_left
        exact fun _ _ _ h => h
        focus (intro w hSw; (try dsimp only at hSw); go_simp; (try with_reducible rfl); done)
        (try simp only [Act.put, List.setIfInBounds_toArray, List.set_cons_zero, List.set_cons_succ])
        refine take_at (i := 10) (d := some 26) (v := ?_) rfl rfl (by kernel_rfl) (by kernel_rfl) (by kernel_rfl) ?_ (Or.inl ⟨by rfl, ?_⟩) (by assumption) ?_
        rotate_left
        exact fun _ _ _ h => h
        focus (intro w hSw; (try dsimp only at hSw); go_simp; (try with_reducible rfl); done)
        (try simp only [Act.put, List.setIfInBounds_toArray, List.set_cons_zero, List.set_cons_succ])
        refine take_at (i := 11) (d := some 27) (v := ?_) rfl rfl (by kernel_rfl) (by kernel_rfl) (by kernel_rfl) ?_ (Or.inl ⟨by rfl, ?_⟩) (by assumption) ?_
        rotate_left
        exact fun _ _ _ h => h
        focus (intro w hSw; (try dsimp only at hSw); go_simp; (try with_reducible rfl); done)
        (try simp only [Act.put, List.setIfInBounds_toArray, List.set_cons_zero, List.set_cons_succ])
        refine wpAnyH_ready (rs := [12]) (by kernel_rfl) (by simp) ?_
        refine AllReadyH.cons (o := _) rfl (fun K hK => ?_) AllReadyH.nil
        go_simp
        refine (HCT.out _).mono ?_
        rintro e w5 ⟨rfl, c5⟩
        have d5 := (Below.refl wr.heap.size wr).drew.trans c5
        refine hK.out _ _ ?_ (fun hHeld => ?_)
        focus (exact ⟨HK.out _ (hb.trans (d5.mono hb.size)), (d5.cell (p := ⟨bk, off + j, none⟩) hbk).trans g0, (d5.cell (p := ⟨bk, off + (j + 1), none⟩) hbk).trans g1⟩)
        clear hK
        (try simp only [Act.put, List.setIfInBounds_toArray, List.set_cons_zero, List.set_cons_succ])
        refine take_at (i := 13) (d := some 29) (v := ?_) rfl rfl (by kernel_rfl) (by kernel_rfl) (by kernel_rfl) ?_ (Or.inl ⟨by rfl, ?_⟩) (by assumption) ?_
        rotate_left
        exact fun _ _ _ h => h
        focus (intro w hSw; (try dsimp only at hSw); go_simp; (try with_reducible rfl); done)
        (try simp only [Act.put, List.setIfInBounds_toArray, List.set_cons_zero, List.set_cons_succ])
        refine take_at (i := 14) (d := some 3) (v := ?_) rfl rfl (by kernel_rfl) (by kernel_rfl) (by kernel_rfl) ?_ (Or.inl ⟨by rfl, ?_⟩) (by assumption) ?_
        rotate_left
        exact fun _ _ _ h => h
        focus (intro w hSw; (try dsimp only at hSw); go_simp; (try with_reducible rfl); done)
        (try simp only [Act.put, List.setIfInBounds_toArray, List.set_cons_zero, List.set_cons_succ])
        refine wpAnyH_done (by kernel_rfl) ?_ _
        go_wp2
        go_roundw
        case rel => exact ⟨j + 1, _, by omega, by go_num, rfl, HV.out, hb.trans (d5.mono hb.size)⟩
        case measure => simp [intOf]; omega
      · obtain rfl : j = cs.length - 1 := by omega
        have hng : ¬ ((cs.length - 1 : Nat) : Int) + 1 < cs.length := by omega
        have HV := hid (show X = crF cs by rw [HR.out, HX.out])
        go_wp2
        go_ret
        exact ⟨by rw [← HV.out]; rfl, HBX.out.trans (hb.mono HBX.out.size)⟩
set_option maxHeartbeats 1600000 in
theorem c_sCarriesOf (v : Value) (cs : List ByteArray) (w : World) (hv : IsT w w.heap.size v cs) (hl : cs.length ≤ 1048576) :
    Calls Try.prog 28 #[.agg #[v]] w fun e w' => e = .returned (.int .i64 (crF cs)) ∧ Below w.heap.size w w' := by
  obtain ⟨av, cv, hav⟩ : ∃ a cap, v = .slice a cs.length cap := ⟨_, _, hv.choose_spec.choose_spec.1⟩
  subst hav
  have bX := RetRow.e1 w (.cells #[.slice av cs.length cv] 27)
  have x0 := eng_cell w (.slice av cs.length cv) 27
  have hxB := (hv.below bX (Nat.le_refl _)).up bX.size
  obtain ⟨wB, hwB⟩ : ∃ y, w.alloc (.cells #[.slice av cs.length cv] 27) = y := ⟨_, rfl⟩
  rw [hwB] at x0 hxB bX
  have l0 := World.block_lt_of_cell? _ _ x0
  have HK := hid (fun (w' : World) (hb : Below wB.heap.size wB w') => (hb.cell (p := ⟨w.heap.size, 0, none⟩) l0).trans x0)
  have HI := hid (fun (w' : World) (hb : Below wB.heap.size wB w') => (hxB.below hb (Nat.le_refl _)).up hb.size)
  have HBX := hid bX
  have b := Below.refl wB.heap.size wB
  clear hv l0 bX hxB
  cases he : EGV cs with
  | false =>
    have HE := hid he
    have HR := hid (crF_no he)
    clear he
    go_enter Try.func28, Try.ntmps28
    go_wp2_with fail
    clear hwB x0
    refine (c_sEngineValid _ cs _ (HI.out _ b) hl).mono ?_
    rw [HE.out]
    rintro e w2 ⟨rfl, c⟩
    go_wp2
    go_ret
    exact ⟨by rw [HR.out]; rfl, HBX.out.trans (c.mono HBX.out.size)⟩
  | true =>
    have HE := hid he
    have HR := hid (crF_yes he)
    obtain ⟨⟨n1, n7⟩, hcs⟩ := EGV_iff.1 he
    have HCS := hid hcs
    clear he hcs
    go_enter Try.func28, Try.ntmps28
    go_wp2_with fail
    clear hwB x0
    refine (c_sEngineValid _ cs _ (HI.out _ b) hl).mono ?_
    rw [HE.out]
    rintro e w2 ⟨rfl, c⟩
    have b2 := hid (b.trans (c.mono b.size))
    clear c b
    go_wp2
    go_loopw [3, 4] (fun x i wr => ∃ (j : Nat) (X : Int), j ≤ cs.length - 1 ∧ i = .int .i64 j ∧ x = .int .i64 X ∧ Hid (X = (mxC cs j : Nat)) ∧ Below wB.heap.size wB wr) (fun _ i _ => cs.length - (intOf i).toNat)
    case atStart => exact ⟨0, 0, Nat.zero_le _, rfl, rfl, rfl, b2.out⟩
    case round =>
      obtain ⟨j, X, hj, rfl, rfl, HX, hb⟩ := hrel
      have x0 := HK.out _ hb
      have hX0 : 0 ≤ X := by rw [HX.out]; omega
      have hX1 : X ≤ 12 := by
        have h := mxC_le (cs := cs) (n := 12) j fun i hi => (CV_iff.1 (HCS.out i (by omega)).1).1.2
        rw [HX.out]; omega
      by_cases hlt : j + 1 < cs.length
      · obtain ⟨aI, cI, hvI, -, hcI⟩ := HI.out _ hb
        simp only [Value.slice.injEq, true_and] at hvI
        obtain ⟨rfl, rfl⟩ := hvI
        obtain ⟨bk, off, rfl, hbk, g0, -⟩ := hcI j (by omega)
        obtain ⟨bk2, off2, e2, hbk2, g1, -⟩ := hcI (j + 1) hlt
        simp only [Option.some.injEq, Addr.mk.injEq, and_true] at e2
        obtain ⟨rfl, rfl⟩ := e2
        have q0 : (0 : Int) ≤ (j : Int) := by omega
        have q1 : (j : Int) < cs.length := by omega
        have q2 : (j : Int) + 1 < cs.length := by omega
        have q3 : (0 : Int) ≤ (j : Int) + 1 := by omega
        have q4 : ((j : Int) + 1).toNat = j + 1 := by omega
        have q5 : IntKind.i64.wrap ((j : Int) + 1) = (j : Int) + 1 := IntWalk.i64_in _ (by omega)
        have q6 : j + 1 < cs.length := hlt
        have q7 : j < cs.length := by omega
        have hv1 := HCS.out j (by omega)
        have hv2 := HCS.out (j + 1) hlt
        have HCT := hid (fun W => c_sCarryTimes (tC cs j) (tC cs (j + 1)) hv1.1 hv2.1 (hv1.2.trans hv2.2.symm) W)
        have hct := (ct_facts hv1.1 hv2.1 (hv1.2.trans hv2.2.symm)).2.2.2.2
        obtain ⟨N, hN⟩ : ∃ N, ctN (tC cs j) (tC cs (j + 1)) = N := ⟨_, rfl⟩
        rw [hN] at HCT hct
        have HMX := hid (show mxC cs (j + 1) = max (mxC cs j) N by rw [← hN]; rfl)
        clear hN hv1 hv2 hcI
        have HV := hid (show max X (N : Int) = (mxC cs (j + 1) : Nat) by rw [HMX.out]; have := HX.out; omega)
        go_wp2_with fail
        refine wp_region_held_drew (S := fun w' => w'.cell? ⟨w.heap.size, 0, none⟩ = some (.slice (some ⟨bk, off, none⟩) cs.length cv) ∧ w'.cell? ⟨bk, off + j, none⟩ = some (.string (tC cs j)) ∧ w'.cell? ⟨bk, off + (j + 1), none⟩ = some (.string (tC cs (j + 1)))) (by kernel_rfl) ?_ (fun hHeld => ?_)
        focus (exact ⟨x0, g0, g1⟩)
        refine take_at (i := 0) (d := some 16) (v := ?_) rfl rfl (by kernel_rfl) (by kernel_rfl) (by kernel_rfl) ?_ (Or.inl ⟨by rfl, ?_⟩) (by assumption) ?_
        rotate_left
        exact fun _ _ _ h => h
        focus (intro w hSw; (try dsimp only at hSw); go_simp; (try with_reducible rfl); done)
        (try simp only [Act.put, List.setIfInBounds_toArray, List.set_cons_zero, List.set_cons_succ])
        refine take_at (i := 1) (d := some 17) (v := ?_) rfl rfl (by kernel_rfl) (by kernel_rfl) (by kernel_rfl) ?_ (Or.inl ⟨by rfl, ?_⟩) (by assumption) ?_
        rotate_left
        exact fun _ _ _ h => h
        focus (intro w hSw; (try dsimp only at hSw); go_simp; (try with_reducible rfl); done)
        (try simp only [Act.put, List.setIfInBounds_toArray, List.set_cons_zero, List.set_cons_succ])
        refine take_at (i := 2) (d := some 18) (v := ?_) rfl rfl (by kernel_rfl) (by kernel_rfl) (by kernel_rfl) ?_ (Or.inl ⟨by rfl, ?_⟩) (by assumption) ?_
        rotate_left
        exact fun _ _ _ h => h
        focus (intro w hSw; (try dsimp only at hSw); go_simp; (try with_reducible rfl); done)
        (try simp only [Act.put, List.setIfInBounds_toArray, List.set_cons_zero, List.set_cons_succ])
        refine take_at (i := 3) (d := some 19) (v := ?_) rfl rfl (by kernel_rfl) (by kernel_rfl) (by kernel_rfl) ?_ (Or.inl ⟨by rfl, ?_⟩) (by assumption) ?_
        rotate_left
        exact fun _ _ _ h => h
        focus (intro w hSw; (try dsimp only at hSw); go_simp; (try with_reducible rfl); done)
        (try simp only [Act.put, List.setIfInBounds_toArray, List.set_cons_zero, List.set_cons_succ])
        refine take_at (i := 4) (d := some 20) (v := ?_) rfl rfl (by kernel_rfl) (by kernel_rfl) (by kernel_rfl) ?_ (Or.inl ⟨by rfl, ?_⟩) (by assumption) ?_
        rotate_left
        exact fun _ _ _ h => h
        focus (intro w hSw; (try dsimp only at hSw); go_simp; (try with_reducible rfl); done)
        (try simp only [Act.put, List.setIfInBounds_toArray, List.set_cons_zero, List.set_cons_succ])
        refine take_at (i := 5) (d := some 21) (v := ?_) rfl rfl (by kernel_rfl) (by kernel_rfl) (by kernel_rfl) ?_ (Or.inl ⟨by rfl, ?_⟩) (by assumption) ?_
        rotate_left
        exact fun _ _ _ h => h
        focus (intro w hSw; (try dsimp only at hSw); go_simp; (try with_reducible rfl); done)
        (try simp only [Act.put, List.setIfInBounds_toArray, List.set_cons_zero, List.set_cons_succ])
        refine take_at (i := 6) (d := some 22) (v := ?_) rfl rfl (by kernel_rfl) (by kernel_rfl) (by kernel_rfl) ?_ (Or.inl ⟨by rfl, ?_⟩) (by assumption) ?_
        rotate_left
        exact fun _ _ _ h => h
        focus (intro w hSw; (try dsimp only at hSw); go_simp; (try with_reducible rfl); done)
        (try simp only [Act.put, List.setIfInBounds_toArray, List.set_cons_zero, List.set_cons_succ])
        refine take_at (i := 7) (d := some 23) (v := ?_) rfl rfl (by kernel_rfl) (by kernel_rfl) (by kernel_rfl) ?_ (Or.inl ⟨by rfl, ?_⟩) (by assumption) ?_
        rotate_left
        exact fun _ _ _ h => h
        focus (intro w hSw; (try dsimp only at hSw); go_simp; (try with_reducible rfl); done)
        (try simp only [Act.put, List.setIfInBounds_toArray, List.set_cons_zero, List.set_cons_succ])
        refine take_at (i := 8) (d := some 24) (v := ?_) rfl rfl (by kernel_rfl) (by kernel_rfl) (by kernel_rfl) ?_ (Or.inl ⟨by rfl, ?_⟩) (by assumption) ?_
        rotate_left
        exact fun _ _ _ h => h
        focus (intro w hSw; (try dsimp only at hSw); go_simp; (try with_reducible rfl); done)
        (try simp only [Act.put, List.setIfInBounds_toArray, List.set_cons_zero, List.set_cons_succ])
        refine take_at (i := 9) (d := some 25) (v := ?_) rfl rfl (by kernel_rfl) (by kernel_rfl) (by kernel_rfl) ?_ (Or.inl ⟨by rfl, ?_⟩) (by assumption) ?_
        rotate_left
        exact fun _ _ _ h => h
        focus (intro w hSw; (try dsimp only at hSw); go_simp; (try with_reducible rfl); done)
        (try simp only [Act.put, List.setIfInBounds_toArray, List.set_cons_zero, List.set_cons_succ])
        refine take_at (i := 10) (d := some 26) (v := ?_) rfl rfl (by kernel_rfl) (by kernel_rfl) (by kernel_rfl) ?_ (Or.inl ⟨by rfl, ?_⟩) (by assumption) ?_
        rotate_left
        exact fun _ _ _ h => h
        focus (intro w hSw; (try dsimp only at hSw); go_simp; (try with_reducible rfl); done)
        (try simp only [Act.put, List.setIfInBounds_toArray, List.set_cons_zero, List.set_cons_succ])
        refine take_at (i := 11) (d := some 27) (v := ?_) rfl rfl (by kernel_rfl) (by kernel_rfl) (by kernel_rfl) ?_ (Or.inl ⟨by rfl, ?_⟩) (by assumption) ?_
        rotate_left
        exact fun _ _ _ h => h
        focus (intro w hSw; (try dsimp only at hSw); go_simp; (try with_reducible rfl); done)
        (try simp only [Act.put, List.setIfInBounds_toArray, List.set_cons_zero, List.set_cons_succ])
        refine wpAnyH_ready (rs := [12]) (by kernel_rfl) (by simp) ?_
        refine AllReadyH.cons (o := _) rfl (fun K hK => ?_) AllReadyH.nil
        go_simp
        refine (HCT.out _).mono ?_
        rintro e w5 ⟨rfl, c5⟩
        have d5 := (Below.refl wr.heap.size wr).drew.trans c5
        refine hK.out _ _ ?_ (fun hHeld => ?_)
        focus (exact ⟨HK.out _ (hb.trans (d5.mono hb.size)), (d5.cell (p := ⟨bk, off + j, none⟩) hbk).trans g0, (d5.cell (p := ⟨bk, off + (j + 1), none⟩) hbk).trans g1⟩)
        clear hK
        (try simp only [Act.put, List.setIfInBounds_toArray, List.set_cons_zero, List.set_cons_succ])
        refine take_at (i := 13) (d := some 29) (v := ?_) rfl rfl (by kernel_rfl) (by kernel_rfl) (by kernel_rfl) ?_ (Or.inl ⟨by rfl, ?_⟩) (by assumption) ?_
        rotate_left
        exact fun _ _ _ h => h
        focus (intro w hSw; (try dsimp only at hSw); go_simp; (try with_reducible rfl); done)
        (try simp only [Act.put, List.setIfInBounds_toArray, List.set_cons_zero, List.set_cons_succ])
        refine take_at (i := 14) (d := some 3) (v := ?_) rfl rfl (by kernel_rfl) (by kernel_rfl) (by kernel_rfl) ?_ (Or.inl ⟨by rfl, ?_⟩) (by assumption) ?_
        rotate_left
        exact fun _ _ _ h => h
        focus (intro w hSw; (try dsimp only at hSw); go_simp; (try with_reducible rfl); done)
        (try simp only [Act.put, List.setIfInBounds_toArray, List.set_cons_zero, List.set_cons_succ])
        refine wpAnyH_done (by kernel_rfl) ?_ _
        go_wp2
        go_roundw
        case rel => exact ⟨j + 1, _, by omega, by go_num, rfl, HV.out, hb.trans (d5.mono hb.size)⟩
        case measure => simp [intOf]; omega
      · obtain rfl : j = cs.length - 1 := by omega
        have hng : ¬ ((cs.length - 1 : Nat) : Int) + 1 < cs.length := by omega
        have HV := hid (show X = crF cs by rw [HR.out, HX.out])
        go_wp2
        go_ret
        exact ⟨by rw [← HV.out]; rfl, HBX.out.trans (hb.mono HBX.out.size)⟩
end Go.Proofs.Ytkaanlldjkflaaa
