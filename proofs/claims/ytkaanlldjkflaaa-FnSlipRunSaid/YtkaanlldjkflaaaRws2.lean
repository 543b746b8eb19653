/- What is proved here: the contract of RunWithSlip (spec). -/
import Derived.Test.YtkaanlldjkflaaaRwsM
import Derived.Test.YtkaanlldjkflaaaLtd
set_option linter.unusedVariables false
set_option linter.unusedSimpArgs false
set_option maxRecDepth 100000
namespace Go.Proofs.Ytkaanlldjkflaaa
open Go.RowKit

theorem OwnI.ne {w : World} {B g : Nat} {v : Value} {xs : List Int} {cur : Array Value} {e : TypeId} (h : OwnI w B v xs) (hg : w.heap[g]? = some (.cells cur e (0, 0))) (he : e ≠ 3) : v.ownBlock ≠ some g := by
  intro hv
  rcases h.2 with ⟨rfl, -⟩ | ⟨g', cap, cur', rfl, -, hgg, -⟩
  · cases hv
  · simp only [Value.ownBlock, Option.some.injEq] at hv
    subst hv
    rw [hgg] at hg
    simp only [Option.some.injEq, Obj.cells.injEq] at hg
    exact he hg.2.1.symm
theorem OwnI.neT {w : World} {B lo hi g n cap : Nat} {v : Value} {xs : List Int} {cs : List ByteArray} (h : OwnI w B v xs) (hr : RwT w lo hi (.slice (some ⟨g, 0, none⟩) n cap) cs) : v.ownBlock ≠ some g := by
  obtain ⟨g', cap', cur, hv, hg, hgg, _⟩ := hr
  simp only [Value.slice.injEq, Option.some.injEq, Addr.mk.injEq, and_true] at hv
  obtain ⟨rfl, rfl, rfl⟩ := hv
  exact h.ne hgg (by decide)
theorem RwT.neG {w : World} {lo hi g gx n cap : Nat} {cs : List ByteArray} {cur : Array Value} {e : TypeId} (hr : RwT w lo hi (.slice (some ⟨g, 0, none⟩) n cap) cs) (hx : w.heap[gx]? = some (.cells cur e (0, 0))) (he : e ≠ 9) : g ≠ gx := by
  obtain ⟨g', cap', cur', hv, hg, hgg, _⟩ := hr
  simp only [Value.slice.injEq, Option.some.injEq, Addr.mk.injEq, and_true] at hv
  obtain ⟨rfl, rfl, rfl⟩ := hv
  rintro rfl
  rw [hgg] at hx
  simp only [Option.some.injEq, Obj.cells.injEq] at hx
  exact he hx.2.1.symm
theorem OwnI.set_other {w : World} {B g o : Nat} {u v : Value} {xs : List Int} (h : OwnI w B v xs) (hg : v.ownBlock ≠ some g) : OwnI (w.setCell ⟨g, o, none⟩ u) B v xs :=
  ownsRow_of_block h fun k hk => Below.heap_setCell w ⟨g, o, none⟩ u k (fun e => hg (by rw [hk, e]))
theorem wpList_appIk {P : Program} {ops : Array Oper} {rest : List Oper} {o : Oper} {a : Act} {Q : Exit → Act → World → Prop} {w : World} {y : Int} (hgd : o.guard = none) (s x : Operand) (T : TypeId)
    (ho : o.op = .call { callee := .builtin .append, args := #[s, x], argTypes := #[T, T] }) (hT : P.underlying T = some (.slice 3))
    (hinf : (P.info? 3).map (fun i => (i.zero, i.size, i.bytes)) = some (some (.int .i64 0), 1, 8))
    (B : Nat) (v : Value) (xs : List Int) (hs : a.eval s = v) (hx : a.eval x = .slice (some ⟨w.heap.size, 0, none⟩) 1 1) (hown : OwnI w B v xs) (hn : xs.length ≤ 1099511627776) (hbase : B ≤ w.heap.size)
    (h : ∀ v' w', OwnI w' B v' (xs ++ [y]) → (Below B w w' ∧ w.heap.size ≤ w'.heap.size) → (∀ k, k < w.heap.size → v.ownBlock ≠ some k → w'.heap[k]? = w.heap[k]?) → wpList P ops Q rest (a.put o.dst v') w') :
    wpList P ops Q (o :: rest) a (w.alloc (.cells #[.int .i64 y] 3)) := by
  obtain ⟨i0, hi, hz0, hz1, hz2⟩ := info_parts hinf
  refine wpList_append_own _ hgd s x T ho B 3 i0 _ 1 8 hT hi hz0 hz1 hz2 rfl (by omega) v xs.length _ hs (World.ownsRow.alloc hown _) ⟨w.heap.size, 0, none⟩ 1 1 [.int .i64 y] hx (by simp) ?_ (by simp [Value.oneCell']) ?_ ?_ ?_ ?_
  · intro j u hu
    have hadd : (⟨w.heap.size, 0, none⟩ : Addr).add j = ⟨w.heap.size, j, none⟩ := by unfold Addr.add; split <;> simp_all
    rw [hadd, World.cell?_alloc_at _ _ _ _ rfl]; simpa using hu
  · unfold maxLen; omega
  · omega
  · simp; omega
  · intro v' w' hown' hg _
    have hb : Below B w w' := ((Below.refl _ _).alloc hbase _).grown hg (by simp; omega) (fun k hk => (World.ownsRow.lt hown k hk).1)
    exact h v' w' (by unfold OwnI; simpa using hown') ⟨hb, by have := hg.size; simp at this; omega⟩ fun k hk hne => (hg.block k (by simp; omega) (fun e => hne e.symm)).trans (Below.heap_alloc _ _ _ hk)
theorem c_l3Count (v : Value) (cs : List ByteArray) (cnt : Int) (w : World) (hv : IsT w w.heap.size v cs) (hl : cs.length ≤ 1048576) :
    Calls Try.prog 37 #[.agg #[v], .int .i64 cnt] w fun e w' => e = .returned (.bool (EGV cs && inB cnt 0 60)) ∧ Below w.heap.size w w' := by
  obtain ⟨av, cv, hav⟩ : ∃ a cap, v = .slice a cs.length cap := ⟨_, _, hv.choose_spec.choose_spec.1⟩
  subst hav
  have e0 := eng_cell w (.slice av cs.length cv) 27
  have b1 := RetRow.e1 w (.cells #[.slice av cs.length cv] 27)
  have hv1 := (hv.below b1 (Nat.le_refl _)).up b1.size
  obtain ⟨wA, hwA⟩ : ∃ x, w.alloc (.cells #[.slice av cs.length cv] 27) = x := ⟨_, rfl⟩
  rw [hwA] at e0 b1 hv1
  have s1 := b1.size
  clear hv
  by_cases hE : EGV cs = true
  · have HE := hid hE
    rw [hE]
    clear hE
    go_enter Try.func37, Try.ntmps37
    go_wp2_with fail
    refine (c_sEngineValid _ cs _ hv1 hl).mono ?_
    rw [HE.out]
    rintro e wx ⟨rfl, cx⟩
    go_wp2_with fail
    refine (c_l1In _ _ _ _).mono ?_
    rintro e wy ⟨rfl, rfl⟩
    go_wp2
    go_ret
    exact ⟨by simp, b1.trans (cx.mono s1)⟩
  · have hE' : EGV cs = false := by simpa using hE
    have HE := hid hE'
    rw [hE']
    clear hE hE'
    go_enter Try.func37, Try.ntmps37
    go_wp2_with fail
    refine (c_sEngineValid _ cs _ hv1 hl).mono ?_
    rw [HE.out]
    rintro e wx ⟨rfl, cx⟩
    go_wp2
    go_ret
    exact ⟨by simp, b1.trans (cx.mono s1)⟩
set_option maxHeartbeats 3200000 in
theorem c_sRunWithSlip (v : Value) (cs : List ByteArray) (cnt t c a : Int) (w : World) (hv : IsT w w.heap.size v cs) (hl : cs.length ≤ 1048576) :
    Calls Try.prog 16 #[.agg #[v], .int .i64 cnt, .int .i64 t, .int .i64 c, .int .i64 a] w (RetRowB w (rsF cs cnt t c a) (rsOk cs cnt t c a)) := by
  obtain ⟨av, cv, hav⟩ : ∃ a cap, v = .slice a cs.length cap := ⟨_, _, hv.choose_spec.choose_spec.1⟩
  subst hav
  have e0 := eng_cell w (.slice av cs.length cv) 27
  have b1 := RetRow.e1 w (.cells #[.slice av cs.length cv] 27)
  have hv1 := (hv.below b1 (Nat.le_refl _)).up b1.size
  obtain ⟨wA, hwA⟩ : ∃ x, w.alloc (.cells #[.slice av cs.length cv] 27) = x := ⟨_, rfl⟩
  rw [hwA] at e0 b1 hv1
  have s1 := b1.size
  have l0 := World.block_lt_of_cell? _ _ e0
  have bE := RetRow.e1 wA (.cells #[] 3)
  have e1 := (bE.cell (p := ⟨w.heap.size, 0, none⟩) l0).trans e0
  have hv2 := (hv1.below bE (Nat.le_refl _)).up bE.size
  have hO := OwnI.empty wA (B := w.heap.size) (c := #[]) s1 rfl
  have b2 := b1.trans (bE.mono s1)
  obtain ⟨gO, hgO⟩ : ∃ x, wA.heap.size = x := ⟨_, rfl⟩
  rw [hgO] at hO
  obtain ⟨wB, hwB⟩ : ∃ x, wA.alloc (.cells #[] 3) = x := ⟨_, rfl⟩
  rw [hwB] at e1 hv2 hO b2
  have s2 := b2.size
  clear hv e0 b1 hv1 bE l0
  have HD : Hid (rsOk cs cnt t c a = (EGV cs && (inB cnt 0 60 && (slipB c t a && decide (c < cs.length))))) := rfl
  by_cases hEC : (EGV cs && inB cnt 0 60) = true
  · by_cases hS : slipB c t a = true
    · by_cases hL : c < cs.length
      · obtain ⟨hE, hC⟩ := (Bool.and_eq_true _ _).mp hEC
        have HOK := hid (show rsOk cs cnt t c a = true by rw [HD.out, hE, hC, hS]; simpa using hL)
        have HR := hid (rsF_yes HOK.out)
        obtain ⟨⟨k0, -⟩, ⟨-, -⟩, hab⟩ := slipB_iff.1 hS
        obtain ⟨hn0, hn1⟩ := inB_iff.1 hC
        obtain ⟨n, rfl⟩ : ∃ n : Nat, cnt = n := ⟨cnt.toNat, by omega⟩
        obtain ⟨k, rfl⟩ : ∃ k : Nat, c = k := ⟨c.toNat, by omega⟩
        obtain ⟨a0, a1⟩ := hab
        have HEC := hid (fun j => EGV_rsC (t := t) (c := k) (a := a) hE (show (k : Int).toNat < cs.length by omega) j)
        have HES := hid (fun j => EGV_rsS (cs := rsC cs t k a j) (t := t) (c := k) (a := a) (n := j) (HEC.out j) (show (k : Int).toNat < (rsC cs t k a j).length by rw [rsC_len]; omega))
        have HRB := hid (fun j => rsR_bd (t := t) (c := k) (a := a) hE (show (k : Int).toNat < cs.length by omega) j)
        have HLC := hid (fun j => rsC_len cs t k a j)
        have HLS := hid (fun j => (rsS_len (rsC cs t k a j) t k a j).trans (rsC_len cs t k a j))
        have HECC := hid hEC
        have HS := hid hS
        have n1 := (EGV_iff.1 hE).1
        obtain ⟨n1, n7⟩ := n1
        have q1 : (k : Int) < cs.length := hL
        have q2 : k < cs.length := by omega
        have q3 : (0 : Int) ≤ k := by omega
        have hng : ¬ (k : Int) ≥ cs.length := by omega
        rw [HR.out, HOK.out]
        clear hE hC hS hL hEC
        go_enter Try.func16, Try.ntmps16
        go_wp2_with fail
        refine (c_l3Count _ cs n _ hv2 hl).mono ?_
        rw [HECC.out]
        rintro e wx ⟨rfl, cx⟩
        replace e1 := (cx.cell (p := ⟨w.heap.size, 0, none⟩) (World.block_lt_of_cell? _ _ e1)).trans e1
        have sx := cx.size
        replace hv2 := (hv2.below cx (Nat.le_refl _)).up sx
        replace b2 := b2.trans (cx.mono s2)
        replace hO := hO.below cx (Nat.le_refl _)
        clear cx
        go_wp2_with fail
        refine (c_l4Slip _ _ _ _).mono ?_
        rw [HS.out]
        rintro e wy ⟨rfl, rfl⟩
        go_wp2_with fail
        refine (c_l3Copy _ cs _ (by omega) (by omega) hv2).mono ?_
        rintro e w2 ⟨g2, cap2, rfl, r2, c2⟩
        have s3 := c2.size
        replace b2 := b2.trans (c2.mono b2.size)
        replace hO := hO.below c2 (Nat.le_refl _)
        have bX := RetRow.e1 w2 (.cells #[.slice (some ⟨g2, 0, none⟩) cs.length cap2] 27)
        have hX := eng_alloc w2 (.slice (some ⟨g2, 0, none⟩) cs.length cap2) 27
        have b3 := b2.trans (bX.mono b2.size)
        have r3 := ((r2.below bX (Nat.le_refl _)).up bX.size).down (show w.heap.size ≤ wx.heap.size by omega)
        have hO3 := hO.below bX (Nat.le_refl _)
        have hgl : w.heap.size ≤ w2.heap.size := b2.size
        obtain ⟨gx, hgx⟩ : ∃ x, w2.heap.size = x := ⟨_, rfl⟩
        rw [hgx] at hX hgl
        obtain ⟨wC, hwC⟩ : ∃ x, w2.alloc (.cells #[.slice (some ⟨g2, 0, none⟩) cs.length cap2] 27) = x := ⟨_, rfl⟩
        rw [hwC] at hX b3 r3 hO3
        have HX := hid hX
        have HR3 := hid r3
        clear r2 c2 bX hO b2 hX r3 e1 hv2
        go_wp2
        clear hgx hwC hgO
        go_loopw [12, 14] (fun v i wr => ∃ (j g cap : Nat), j ≤ n ∧ i = .int .i64 j ∧ Hid (wr.heap[gx]? = some (.cells #[.slice (some ⟨g, 0, none⟩) cs.length cap] 27 (0, 0))) ∧ Hid (RwT wr w.heap.size wr.heap.size (.slice (some ⟨g, 0, none⟩) cs.length cap) (rsC cs t k a j)) ∧ OwnI wr w.heap.size v ((List.range j).map (rsR cs t k a)) ∧ Below w.heap.size w wr) (fun _ i _ => n - (intOf i).toNat)
        case atStart => exact ⟨0, g2, cap2, Nat.zero_le _, rfl, HX.out, HR3.out, hO3, b3⟩
        case round =>
          obtain ⟨j, g, cap, hj, rfl, HXW, HRW, hown, hbel⟩ := hrel
          clear hO3 b3 HX HR3
          have hbs := hbel.size
          by_cases hlt : j < n
          · have qj0 : (0 : Int) ≤ (j : Int) := by omega
            have qj1 : (j : Int) < n := by omega
            have HEds := hid (HEC.out j)
            have HEes := hid (HES.out j)
            have HLD := hid (HLC.out j)
            have HLE := hid (HLS.out j)
            have HCN := hid (show rsC cs t k a (j + 1) = tuN (rsS (rsC cs t k a j) t k a j) from rfl)
            have HRJ := hid (show sgN (tC (rsS (rsC cs t k a j) t k a j) 0) = rsR cs t k a j from rfl)
            have HMAP := hid (show (List.range j).map (rsR cs t k a) ++ [rsR cs t k a j] = (List.range (j + 1)).map (rsR cs t k a) by rw [List.range_succ, List.map_append]; rfl)
            have HSD : Hid (rsS (rsC cs t k a j) t k a j = if (j : Int) = t then (rsC cs t k a j).set k (slC (tC (rsC cs t k a j) k) a) else rsC cs t k a j) := rfl
            obtain ⟨es, hes⟩ : ∃ es, rsS (rsC cs t k a j) t k a j = es := ⟨_, rfl⟩
            rw [hes] at HEes HLE HCN HRJ HSD
            obtain ⟨ds, hds⟩ : ∃ ds, rsC cs t k a j = ds := ⟨_, rfl⟩
            rw [hds] at HEds HLD HSD HRW
            clear hes hds
            have HCV0 := hid ((EGV_iff.1 HEes.out).2 0 (by rw [HLE.out]; omega)).1
            have HCVk := hid ((EGV_iff.1 HEds.out).2 k (by rw [HLD.out]; exact q2)).1
            have HL6 := hid ((tuN_len es).trans HLE.out)
            have hgX := HRW.out.neG HXW.out (by decide)
            have hgxl : gx < wr.heap.size := (Array.getElem?_eq_some_iff.1 HXW.out).1
            by_cases ht : (j : Int) = t
            · have HSE := hid (show es = ds.set k (slC (tC ds k) a) by rw [HSD.out, if_pos ht])
              have ht' : ((j : Int) == t) = true := by simpa using ht
              have hvb := vl_bd HCVk.out
              have hzz := (CV_iff.1 HCVk.out).1
              have htt := ten12 hzz.2
              obtain ⟨hv0, hv1⟩ := hvb
              obtain ⟨hz0, hz1⟩ := hzz
              have HSS := hid (show (slC (tC ds k) a).size ≤ maxLen by rw [slC, shB_size]; unfold maxLen; omega)
              have HSH := hid (fun W => (show Calls Try.prog 40 #[.int .i64 (vl (tC ds k) + a), .int .i64 (tC ds k).size] W (RetS W (slC (tC ds k) a)) from c_l1Show _ _ W (by omega) (by omega) (by omega)))
              have HQ2 := hid (show k < ds.length by rw [HLD.out]; exact q2)
              have k1 : IntKind.i64.wrap (vl (tC ds k) + a) = vl (tC ds k) + a := IntWalk.i64_in _ (by omega)
              have HKK := hid (fun (w' : World) (h1 : w'.heap[gx]? = wr.heap[gx]?) (h2 : w'.heap[g]? = wr.heap[g]?) => (show (fun w' => w'.cell? ⟨gx, 0, none⟩ = some (.slice (some ⟨g, 0, none⟩) cs.length cap) ∧ w'.cell? ⟨g, k, none⟩ = some (.string (tC ds k))) w' from ⟨by rw [row_cell (h1.trans HXW.out)]; rfl, ((HRW.out.cong (hi' := wr.heap.size) h2 (Nat.le_refl _)).at HQ2.out).1⟩))
              have hgwl := HRW.out.lt.2.2
              clear ht
              go_wp2_with fail
              refine regionL (m := 19) (S := fun w' => w'.cell? ⟨gx, 0, none⟩ = some (.slice (some ⟨g, 0, none⟩) cs.length cap) ∧ w'.cell? ⟨g, k, none⟩ = some (.string (tC ds k))) (by kernel_rfl) ?_ (fun hHeld => ?_)
              focus (exact HKK.out _ rfl rfl)
              refine takeL (m := 19) (i := 0) (d := some 45) (v := ?_) rfl rfl rfl (by kernel_rfl) (by decide) (by kernel_rfl) ?_ _ _ _ _ (by kernel_rfl) (by kernel_rfl) (Or.inl ⟨by rfl, ?_⟩) (by assumption) ?_
              rotate_left
              exact fun _ _ _ h => h
              focus (intro w hSw; (try dsimp only at hSw); go_simp; (try with_reducible rfl); done)
              (try simp only [Act.put, List.setIfInBounds_toArray, List.set_cons_zero, List.set_cons_succ])
              refine takeL (m := 19) (i := 1) (d := some 46) (v := ?_) rfl rfl rfl (by kernel_rfl) (by decide) (by kernel_rfl) ?_ _ _ _ _ (by kernel_rfl) (by kernel_rfl) (Or.inl ⟨by rfl, ?_⟩) (by assumption) ?_
              rotate_left
              exact fun _ _ _ h => h
              focus (intro w hSw; (try dsimp only at hSw); go_simp; (try with_reducible rfl); done)
              (try simp only [Act.put, List.setIfInBounds_toArray, List.set_cons_zero, List.set_cons_succ])
              refine takeL (m := 19) (i := 2) (d := some 47) (v := ?_) rfl rfl rfl (by kernel_rfl) (by decide) (by kernel_rfl) ?_ _ _ _ _ (by kernel_rfl) (by kernel_rfl) (Or.inl ⟨by rfl, ?_⟩) (by assumption) ?_
              rotate_left
              exact fun _ _ _ h => h
              focus (intro w hSw; (try dsimp only at hSw); go_simp; (try with_reducible rfl); done)
              (try simp only [Act.put, List.setIfInBounds_toArray, List.set_cons_zero, List.set_cons_succ])
              refine takeL (m := 19) (i := 3) (d := some 48) (v := ?_) rfl rfl rfl (by kernel_rfl) (by decide) (by kernel_rfl) ?_ _ _ _ _ (by kernel_rfl) (by kernel_rfl) (Or.inl ⟨by rfl, ?_⟩) (by assumption) ?_
              rotate_left
              exact fun _ _ _ h => h
              focus (intro w hSw; (try dsimp only at hSw); go_simp; (try with_reducible rfl); done)
              (try simp only [Act.put, List.setIfInBounds_toArray, List.set_cons_zero, List.set_cons_succ])
              refine takeL (m := 19) (i := 4) (d := some 49) (v := ?_) rfl rfl rfl (by kernel_rfl) (by decide) (by kernel_rfl) ?_ _ _ _ _ (by kernel_rfl) (by kernel_rfl) (Or.inl ⟨by rfl, ?_⟩) (by assumption) ?_
              rotate_left
              exact fun _ _ _ h => h
              focus (intro w hSw; (try dsimp only at hSw); go_simp; (try with_reducible rfl); done)
              (try simp only [Act.put, List.setIfInBounds_toArray, List.set_cons_zero, List.set_cons_succ])
              refine takeL (m := 19) (i := 5) (d := some 50) (v := ?_) rfl rfl rfl (by kernel_rfl) (by decide) (by kernel_rfl) ?_ _ _ _ _ (by kernel_rfl) (by kernel_rfl) (Or.inl ⟨by rfl, ?_⟩) (by assumption) ?_
              rotate_left
              exact fun _ _ _ h => h
              focus (intro w hSw; (try dsimp only at hSw); go_simp; (try with_reducible rfl); done)
              (try simp only [Act.put, List.setIfInBounds_toArray, List.set_cons_zero, List.set_cons_succ])
              refine takeL (m := 19) (i := 6) (d := some 51) (v := ?_) rfl rfl rfl (by kernel_rfl) (by decide) (by kernel_rfl) ?_ _ _ _ _ (by kernel_rfl) (by kernel_rfl) (Or.inl ⟨by rfl, ?_⟩) (by assumption) ?_
              rotate_left
              exact fun _ _ _ h => h
              focus (intro w hSw; (try dsimp only at hSw); go_simp; (try with_reducible rfl); done)
              (try simp only [Act.put, List.setIfInBounds_toArray, List.set_cons_zero, List.set_cons_succ])
              refine takeL (m := 19) (i := 7) (d := some 52) (v := ?_) rfl rfl rfl (by kernel_rfl) (by decide) (by kernel_rfl) ?_ _ _ _ _ (by kernel_rfl) (by kernel_rfl) (Or.inl ⟨by rfl, ?_⟩) (by assumption) ?_
              rotate_left
              exact fun _ _ _ h => h
              focus (intro w hSw; (try dsimp only at hSw); go_simp; (try with_reducible rfl); done)
              (try simp only [Act.put, List.setIfInBounds_toArray, List.set_cons_zero, List.set_cons_succ])
              refine takeL (m := 19) (i := 9) (d := some 54) (v := ?_) rfl rfl rfl (by kernel_rfl) (by decide) (by kernel_rfl) ?_ _ _ _ _ (by kernel_rfl) (by kernel_rfl) (Or.inl ⟨by rfl, ?_⟩) (by assumption) ?_
              rotate_left
              exact fun _ _ _ h => h
              focus (intro w hSw; (try dsimp only at hSw); go_simp; (try with_reducible rfl); done)
              (try simp only [Act.put, List.setIfInBounds_toArray, List.set_cons_zero, List.set_cons_succ])
              refine takeL (m := 19) (i := 11) (d := some 56) (v := ?_) rfl rfl rfl (by kernel_rfl) (by decide) (by kernel_rfl) ?_ _ _ _ _ (by kernel_rfl) (by kernel_rfl) (Or.inl ⟨by rfl, ?_⟩) (by assumption) ?_
              rotate_left
              exact fun _ _ _ h => h
              focus (intro w hSw; (try dsimp only at hSw); go_simp; (try with_reducible rfl); done)
              (try simp only [Act.put, List.setIfInBounds_toArray, List.set_cons_zero, List.set_cons_succ])
              refine takeL (m := 19) (i := 12) (d := some 57) (v := ?_) rfl rfl rfl (by kernel_rfl) (by decide) (by kernel_rfl) ?_ _ _ _ _ (by kernel_rfl) (by kernel_rfl) (Or.inl ⟨by rfl, ?_⟩) (by assumption) ?_
              rotate_left
              exact fun _ _ _ h => h
              focus (intro w hSw; (try dsimp only at hSw); go_simp; (try with_reducible rfl); done)
              (try simp only [Act.put, List.setIfInBounds_toArray, List.set_cons_zero, List.set_cons_succ])
              refine takeL (m := 19) (i := 13) (d := some 58) (v := ?_) rfl rfl rfl (by kernel_rfl) (by decide) (by kernel_rfl) ?_ _ _ _ _ (by kernel_rfl) (by kernel_rfl) (Or.inl ⟨by rfl, ?_⟩) (by assumption) ?_
              rotate_left
              exact fun _ _ _ h => h
              focus (intro w hSw; (try dsimp only at hSw); go_simp; (try with_reducible rfl); done)
              (try simp only [Act.put, List.setIfInBounds_toArray, List.set_cons_zero, List.set_cons_succ])
              refine takeL (m := 19) (i := 14) (d := some 59) (v := ?_) rfl rfl rfl (by kernel_rfl) (by decide) (by kernel_rfl) ?_ _ _ _ _ (by kernel_rfl) (by kernel_rfl) (Or.inl ⟨by rfl, ?_⟩) (by assumption) ?_
              rotate_left
              exact fun _ _ _ h => h
              focus (intro w hSw; (try dsimp only at hSw); go_simp; (try with_reducible rfl); done)
              (try simp only [Act.put, List.setIfInBounds_toArray, List.set_cons_zero, List.set_cons_succ])
              refine takeL (m := 19) (i := 15) (d := some 60) (v := ?_) rfl rfl rfl (by kernel_rfl) (by decide) (by kernel_rfl) ?_ _ _ _ _ (by kernel_rfl) (by kernel_rfl) (Or.inl ⟨by rfl, ?_⟩) (by assumption) ?_
              rotate_left
              exact fun _ _ _ h => h
              focus (intro w hSw; (try dsimp only at hSw); go_simp; (try with_reducible rfl); done)
              (try simp only [Act.put, List.setIfInBounds_toArray, List.set_cons_zero, List.set_cons_succ])
              refine takeL (m := 19) (i := 16) (d := some 61) (v := ?_) rfl rfl rfl (by kernel_rfl) (by decide) (by kernel_rfl) ?_ _ _ _ _ (by kernel_rfl) (by kernel_rfl) (Or.inl ⟨by rfl, ?_⟩) (by assumption) ?_
              rotate_left
              exact fun _ _ _ h => h
              focus (intro w hSw; (try dsimp only at hSw); go_simp; (try with_reducible rfl); done)
              (try simp only [Act.put, List.setIfInBounds_toArray, List.set_cons_zero, List.set_cons_succ])
              refine readyL (i := 8) (by kernel_rfl) rfl (fun K hK => ?_)
              go_simp
              refine (c_l1Value (tC ds k) HCVk.out _).mono ?_
              rintro e wz ⟨rfl, rfl⟩
              refine hK.out _ _ ?_ (fun hHeld => ?_)
              focus (exact HKK.out _ rfl rfl)
              clear hK
              (try simp only [Act.put, List.setIfInBounds_toArray, List.set_cons_zero, List.set_cons_succ])
              refine takeL (m := 19) (i := 10) (d := some 55) (v := ?_) rfl rfl rfl (by kernel_rfl) (by decide) (by kernel_rfl) ?_ _ _ _ _ (by kernel_rfl) (by kernel_rfl) (Or.inl ⟨by rfl, ?_⟩) (by assumption) ?_
              rotate_left
              exact fun _ _ _ h => h
              focus (intro w hSw; (try dsimp only at hSw); go_simp; (try with_reducible rfl); done)
              (try simp only [Act.put, List.setIfInBounds_toArray, List.set_cons_zero, List.set_cons_succ])
              refine readyL (i := 17) (by kernel_rfl) rfl (fun K hK => ?_)
              go_simp
              refine (HSH.out _).mono ?_
              rintro e w3 ⟨rfl, c3⟩
              have e31 : w3.heap[gx]? = wr.heap[gx]? := c3.block gx hgxl; have e32 : w3.heap[g]? = wr.heap[g]? := c3.block g hgwl
              refine hK.out _ _ ?_ (fun hHeld => ?_)
              focus (exact HKK.out _ e31 e32)
              clear hK
              (try simp only [Act.put, List.setIfInBounds_toArray, List.set_cons_zero, List.set_cons_succ])
              have s3 : wr.heap.size ≤ w3.heap.size := c3.size
              have r3 := HRW.out.cong (w' := w3) (hi' := w3.heap.size) e32 s3
              have hown3 := (show OwnI wr.drew w.heap.size _ _ from hown).below c3 (Nat.le_refl _)
              have b3 := hbel.drew.trans (c3.mono hbs)
              obtain ⟨ck3, fk3⟩ := r3.at HQ2.out
              have r4 := r3.set HQ2.out HSS.out
              have hgl3 := r3.lt.1
              have b4 := b3.setCell (p := ⟨g, k, none⟩) hgl3 (.string (slC (tC ds k) a))
              have hown4 := hown3.set_other (g := g) (o := k) (u := .string (slC (tC ds k) a)) (hown3.neT r3)
              have HX4 := hid ((Below.heap_setCell w3 ⟨g, k, none⟩ (.string (slC (tC ds k) a)) gx (Ne.symm hgX)).trans (e31.trans HXW.out))
              rw [← HSE.out] at r4
              refine takeL (m := 19) (i := 18) (d := some 63) (v := ?_) rfl rfl rfl (by kernel_rfl) (by decide) (by kernel_rfl) ?_ _ _ _ _ (by kernel_rfl) (by kernel_rfl) (Or.inl ⟨by rfl, ?_⟩) (by assumption) ?_
              rotate_left
              exact fun _ _ _ h => h
              focus (intro w hSw; (try dsimp only at hSw); go_simp; (try with_reducible rfl); done)
              (try simp only [Act.put, List.setIfInBounds_toArray, List.set_cons_zero, List.set_cons_succ])
              obtain ⟨w4, hw4⟩ : ∃ x, w3.setCell ⟨g, k, none⟩ (.string (slC (tC ds k) a)) = x := ⟨_, rfl⟩
              have s4 : w3.heap.size ≤ w4.heap.size := by rw [← hw4]; simp
              refine lastL (by kernel_rfl) rfl (fun K hK => ?_)
              go_simp
              refine hK.out _ _ ?_
              clear hK
              (try simp only [Act.put, List.setIfInBounds_toArray, List.set_cons_zero, List.set_cons_succ])
              rw [hw4] at r4 b4 hown4 HX4
              replace r4 := r4.up s4
              have hgx4 : gx < w4.heap.size := (Array.getElem?_eq_some_iff.1 HX4.out).1
              have hle : es.length = cs.length := HLE.out
              clear r3 hown3 b3 c3 hHeld e31 e32 ck3 fk3 hw4
              refine doneL (by kernel_rfl) ?_
              have hBX := HX4.out
              obtain ⟨c0, -⟩ := r4.at (show 0 < es.length by omega)
              have x4 := row_cell hBX 0
              go_wp2_with fail
              refine (c_l1Signed (tC es 0) HCV0.out _).mono ?_
              rintro e wz ⟨rfl, rfl⟩
              clear x4 hBX
              go_wp2_with (at_builtin; refine wpList_appIk rfl _ _ _ rfl Try.underlying36 Try.infoInt w.heap.size _ ((List.range j).map (rsR cs t k a)) rfl rfl hown4 (by simp; omega) (show w.heap.size ≤ w4.heap.size from b4.size) ?_; intro v5 w5 hown5 hb5 hk5; have HX5 := hid ((hk5 gx hgx4 (hown4.ne HX4.out (by decide))).trans HX4.out); have x5 := row_cell HX5.out 0; have f5 := row_free HX5.out 0; have r5 := r4.cong (w' := w5) (hi' := w5.heap.size) (hk5 g r4.lt.2.2 (hown4.neT r4)) hb5.2; have b5 := b4.trans hb5.1)
              have hx5 : gx < w5.heap.size := (Array.getElem?_eq_some_iff.1 HX5.out).1
              refine (c_l3Turn _ es _ HEes.out r5.isT).mono ?_
              rintro e w6 ⟨g6, cap6, rfl, r6, c6⟩
              have s5 := b5.size
              have HX6 := hid ((c6.block gx hx5).trans HX5.out)
              have x6 := row_cell HX6.out 0
              have f6 := row_free HX6.out 0
              have hg6 := r6.lt
              have HR6 := hid r6
              have HOW6 := hid (hown5.below c6 (Nat.le_refl _))
              have b6 := b5.trans (c6.mono s5)
              clear r6 c6 r5 r4 x5 f5 hb5 hk5
              go_wp2
              go_roundw
              case rel =>
                refine ⟨j + 1, g6, cap6, by omega, by go_num, ?_, ?_, ?_, b6.setCell (p := ⟨gx, 0, none⟩) hgl _⟩
                · have h := row_set HX6.out 0 (.slice (some ⟨g6, 0, none⟩) (tuN es).length cap6)
                  show _ = _
                  rw [HL6.out] at h ⊢
                  exact h
                · have h := HR6.out.cong (w' := w6.setCell ⟨gx, 0, none⟩ (.slice (some ⟨g6, 0, none⟩) (tuN es).length cap6)) (hi' := (w6.setCell ⟨gx, 0, none⟩ (.slice (some ⟨g6, 0, none⟩) (tuN es).length cap6)).heap.size) (Below.heap_setCell w6 ⟨gx, 0, none⟩ _ g6 (show g6 ≠ gx by omega)) (by simp)
                  show RwT _ _ _ _ _
                  rw [HCN.out]
                  have h2 := h.down s5
                  rw [HL6.out] at h2 ⊢
                  exact h2
                · have h := HOW6.out.set_other (g := gx) (o := 0) (u := .slice (some ⟨g6, 0, none⟩) (tuN es).length cap6) (HOW6.out.ne HX6.out (by decide))
                  rw [← HMAP.out, ← HRJ.out]
                  exact h
              case measure => simp [intOf]; omega
            · have HSE := hid (show es = ds by rw [HSD.out, if_neg ht])
              have ht' : ((j : Int) == t) = false := by simpa using ht
              have r4 := HRW.out
              rw [← HSE.out] at r4
              have hown4 := hown
              have b4 := hbel
              have HX4 := HXW
              have hgx4 := hgxl
              have hle : es.length = cs.length := HLE.out
              clear ht
              have hBX := HX4.out
              obtain ⟨c0, -⟩ := r4.at (show 0 < es.length by omega)
              have x4 := row_cell hBX 0
              go_wp2_with fail
              refine (c_l1Signed (tC es 0) HCV0.out _).mono ?_
              rintro e wz ⟨rfl, rfl⟩
              clear x4 hBX
              go_wp2_with (at_builtin; refine wpList_appIk rfl _ _ _ rfl Try.underlying36 Try.infoInt w.heap.size _ ((List.range j).map (rsR cs t k a)) rfl rfl hown4 (by simp; omega) (show w.heap.size ≤ wr.heap.size from b4.size) ?_; intro v5 w5 hown5 hb5 hk5; have HX5 := hid ((hk5 gx hgx4 (hown4.ne HX4.out (by decide))).trans HX4.out); have x5 := row_cell HX5.out 0; have f5 := row_free HX5.out 0; have r5 := r4.cong (w' := w5) (hi' := w5.heap.size) (hk5 g r4.lt.2.2 (hown4.neT r4)) hb5.2; have b5 := b4.trans hb5.1)
              have hx5 : gx < w5.heap.size := (Array.getElem?_eq_some_iff.1 HX5.out).1
              refine (c_l3Turn _ es _ HEes.out r5.isT).mono ?_
              rintro e w6 ⟨g6, cap6, rfl, r6, c6⟩
              have s5 := b5.size
              have HX6 := hid ((c6.block gx hx5).trans HX5.out)
              have x6 := row_cell HX6.out 0
              have f6 := row_free HX6.out 0
              have hg6 := r6.lt
              have HR6 := hid r6
              have HOW6 := hid (hown5.below c6 (Nat.le_refl _))
              have b6 := b5.trans (c6.mono s5)
              clear r6 c6 r5 r4 x5 f5 hb5 hk5
              go_wp2
              go_roundw
              case rel =>
                refine ⟨j + 1, g6, cap6, by omega, by go_num, ?_, ?_, ?_, b6.setCell (p := ⟨gx, 0, none⟩) hgl _⟩
                · have h := row_set HX6.out 0 (.slice (some ⟨g6, 0, none⟩) (tuN es).length cap6)
                  show _ = _
                  rw [HL6.out] at h ⊢
                  exact h
                · have h := HR6.out.cong (w' := w6.setCell ⟨gx, 0, none⟩ (.slice (some ⟨g6, 0, none⟩) (tuN es).length cap6)) (hi' := (w6.setCell ⟨gx, 0, none⟩ (.slice (some ⟨g6, 0, none⟩) (tuN es).length cap6)).heap.size) (Below.heap_setCell w6 ⟨gx, 0, none⟩ _ g6 (show g6 ≠ gx by omega)) (by simp)
                  show RwT _ _ _ _ _
                  rw [HCN.out]
                  have h2 := h.down s5
                  rw [HL6.out] at h2 ⊢
                  exact h2
                · have h := HOW6.out.set_other (g := gx) (o := 0) (u := .slice (some ⟨g6, 0, none⟩) (tuN es).length cap6) (HOW6.out.ne HX6.out (by decide))
                  rw [← HMAP.out, ← HRJ.out]
                  exact h
              case measure => simp [intOf]; omega
          · obtain rfl : j = n := by omega
            have HBR := hid (hown.rw (R64.of_el fun i hi => by rw [el_map _ _ _ (by simpa using hi)]; have := HRB.out ((List.range j)[i]'(by simpa using hi)); omega) (Nat.le_refl _))
            go_wp2
            go_ret2
            exact ⟨_, rfl, by rw [Int.toNat_natCast]; exact HBR.out, hbel⟩
      · have HOK := hid (show rsOk cs cnt t c a = false by rw [HD.out]; simp [hL])
        have HR := hid (rsF_no HOK.out)
        have hlg : c ≥ cs.length := by omega
        have HECC := hid hEC
        have HS := hid hS
        rw [HR.out, HOK.out]
        clear hEC hS
        go_enter Try.func16, Try.ntmps16
        go_wp2_with fail
        refine (c_l3Count _ cs cnt _ hv2 hl).mono ?_
        rw [HECC.out]
        rintro e wx ⟨rfl, cx⟩
        replace e1 := (cx.cell (p := ⟨w.heap.size, 0, none⟩) (World.block_lt_of_cell? _ _ e1)).trans e1
        have b3 := b2.trans (cx.mono s2)
        have hO3 := (hO.below cx (Nat.le_refl _)).rw R64.nil (Nat.le_refl _)
        go_wp2_with fail
        refine (c_l4Slip _ _ _ _).mono ?_
        rw [HS.out]
        rintro e wy ⟨rfl, rfl⟩
        go_wp2
        go_ret2
        exact ⟨_, rfl, hO3, b3⟩
    · have hS' : slipB c t a = false := by simpa using hS
      have HOK := hid (show rsOk cs cnt t c a = false by rw [HD.out, hS']; simp)
      have HR := hid (rsF_no HOK.out)
      have HECC := hid hEC
      have HS := hid hS'
      rw [HR.out, HOK.out]
      clear hEC hS hS'
      go_enter Try.func16, Try.ntmps16
      go_wp2_with fail
      refine (c_l3Count _ cs cnt _ hv2 hl).mono ?_
      rw [HECC.out]
      rintro e wx ⟨rfl, cx⟩
      have b3 := b2.trans (cx.mono s2)
      have hO3 := (hO.below cx (Nat.le_refl _)).rw R64.nil (Nat.le_refl _)
      go_wp2_with fail
      refine (c_l4Slip _ _ _ _).mono ?_
      rw [HS.out]
      rintro e wy ⟨rfl, rfl⟩
      go_wp2
      go_ret2
      exact ⟨_, rfl, hO3, b3⟩
  · have hEC' : (EGV cs && inB cnt 0 60) = false := by simpa using hEC
    have HOK := hid (show rsOk cs cnt t c a = false by rw [HD.out, ← Bool.and_assoc, hEC']; simp)
    have HR := hid (rsF_no HOK.out)
    have HECC := hid hEC'
    rw [HR.out, HOK.out]
    clear hEC hEC'
    go_enter Try.func16, Try.ntmps16
    go_wp2_with fail
    refine (c_l3Count _ cs cnt _ hv2 hl).mono ?_
    rw [HECC.out]
    rintro e wx ⟨rfl, cx⟩
    have b3 := b2.trans (cx.mono s2)
    have hO3 := (hO.below cx (Nat.le_refl _)).rw R64.nil (Nat.le_refl _)
    go_wp2
    go_ret2
    exact ⟨_, rfl, hO3, b3⟩
end Go.Proofs.Ytkaanlldjkflaaa
