/- What is proved here: contracts of PlanValues (spec and impl). -/
import Derived.Test.YtahbfcnailfkoaaPlnR
set_option linter.unusedVariables false
set_option linter.unusedSimpArgs false
namespace Go.Proofs.Ytahbfcnailfkoaa
open Go.RowKit

section
variable {P : Program} {ops : Array Oper} {o : Oper} {a : Act} {K : Act → World → Prop} {Q : Exit → Act → World → Prop} {w : World}
/-- append(out, xs...) in a region that draws its order, xs not nil. -/
theorem step_appMany {E : Prop} (hgd : o.guard = none) (s x : Operand) (T : TypeId)
    (ho : o.op = .call { callee := .builtin .append, args := #[s, x], argTypes := #[T, T] }) (hT : P.underlying T = some (.slice 3))
    (hinf : (P.info? 3).map (fun i => (i.zero, i.size, i.bytes)) = some (some (.int .i64 0), 1, 8))
    (B : Nat) (v : Value) (ys : List Int) (hs : a.eval s = v) (hown : OwnI w B v ys) (ad : Addr) (c : Nat) (xs : List Int) (hx : a.eval x = .slice (some ad) xs.length c)
    (hc : ∀ j, j < xs.length → w.cell? (ad.add j) = some (.int .i64 (el xs j))) (hn : ys.length + xs.length ≤ 1099511627776) (hbase : B ≤ w.heap.size)
    (h : ∀ v' w', OwnI w' B v' (ys ++ xs) → Below B w w' → K (a.put o.dst v') w') :
    if Region.wanted o (yielded ops a.tmps) = true then Oper.wp P o a w K Q else E := by
  obtain ⟨i0, hi, hz0, hz1, hz2⟩ := info_parts hinf
  have hw : Region.wanted o (yielded ops a.tmps) = true := by simp [Region.wanted, hgd]
  rw [if_pos hw]
  refine wp_append_own _ s x T ho B 3 i0 _ 1 8 hT hi hz0 hz1 hz2 rfl (by omega) v _ _ hs hown ad xs.length c (xs.map (Value.int .i64)) hx (by simp) ?_ (ints_oneCell _ _) (by unfold maxLen; omega) (by omega) hbase ?_
  · intro j u hu
    have hj : j < xs.length := by
      rcases Nat.lt_or_ge j xs.length with h' | h'
      · exact h'
      · rw [List.getElem?_eq_none (by simpa using h')] at hu; cases hu
    rw [hc j hj, ← hu, map_int_at _ _ hj]
  · intro v' w' hown' hg _
    refine h v' w' (by unfold OwnI; simpa using hown') ⟨hg.os, hg.tape, hg.output, hg.size, fun k hk => hg.block k (by omega) (fun e => by have := (World.ownsRow.lt hown k e.symm).1; omega)⟩
end
theorem Rw.splitA {w : World} {lo hi : Nat} {v : Value} {xs : List Int} (h : Rw w lo hi v xs) (hx : 0 < xs.length) :
    ∃ g cap, v = .slice (some ⟨g, 0, none⟩) xs.length cap ∧ ∀ j, j < xs.length → w.cell? ((⟨g, 0, none⟩ : Addr).add j) = some (.int .i64 (el xs j)) := by
  obtain ⟨g, cap, rfl, _, _, _, hc, _⟩ := h.split hx
  refine ⟨g, cap, rfl, fun j hj => ?_⟩
  have e : (⟨g, 0, none⟩ : Addr).add j = ⟨g, j, none⟩ := by unfold Addr.add; split <;> simp_all
  rw [e]; exact hc j hj
/-- The table of the first segments. -/
def pV (L : List (Int × List Int)) : Nat → List Int
  | 0 => []
  | k + 1 => pV L k ++ valF (pP L k) 0 1 (pC L k).toNat
theorem pV_len {L : List (Int × List Int)} : ∀ k, (∀ i, i < k → 1 ≤ pC L i) → ((pV L k).length : Int) = pS L k := by
  intro k
  induction k with
  | zero => intro _; rfl
  | succ k ih =>
    intro h
    have h1 := ih (fun i hi => h i (by omega))
    have h2 := h k (by omega)
    rw [pV, pS, List.length_append, valF_len]; omega
theorem pV_R {L : List (Int × List Int)} : ∀ k, (∀ i, i < k → TB (valF (pP L i) 0 1 (pC L i).toNat) = true) → R64 (pV L k) := by
  intro k
  induction k with
  | zero => intro _; exact R64.nil
  | succ k ih =>
    intro h
    rw [pV]
    exact (ih (fun i hi => h i (by omega))).append ((TB_Bd (h k (by omega))).r64 (by omega))
def plV (L : List (Int × List Int)) : List Int := if PLV L then pV L L.length else []
theorem plV_yes {L : List (Int × List Int)} (h : PLV L = true) : plV L = pV L L.length := by simp [plV, h]
theorem plV_no {L : List (Int × List Int)} (h : PLV L = false) : plV L = [] := by simp [plV, h]
theorem pV_facts {L : List (Int × List Int)} (h : PLV L = true) : R64 (pV L L.length) ∧ ∀ k, k ≤ L.length → (pV L k).length ≤ 60 := by
  have hf := PLV_facts h
  refine ⟨pV_R _ (fun i hi => (sgB_yes (hf.2.1 i hi)).2.2), fun k hk => ?_⟩
  have h1 := pV_len (L := L) k (fun i hi => (sgB_yes (hf.2.1 i (by omega))).1.1)
  have h2 := (hf.2.2 k hk).2
  omega
theorem plV_len {L : List (Int × List Int)} : (plV L).length ≤ 60 := by
  by_cases h : PLV L = true
  · rw [plV_yes h]; exact (pV_facts h).2 _ (Nat.le_refl _)
  · rw [plV_no (by simpa using h)]; simp
set_option maxRecDepth 100000 in
theorem c_l5Values (v : Value) (L : List (Int × List Int)) (w : World) (hv : IsS w w.heap.size v L) (hP : PLV L = true) :
    Calls Try.prog 69 #[v] w (RetRow w (pV L L.length)) := by
  obtain ⟨a, cap, rfl, hm, hc⟩ := hv
  unfold maxLen at hm
  have HF := hid (PLV_facts hP)
  have HVF := hid (pV_facts hP)
  have h60 := HF.out.1.2
  obtain ⟨n, hn⟩ : ∃ n, L.length = n := ⟨_, rfl⟩
  have HN := hid hn
  rw [hn] at hm hc HF HVF h60 ⊢
  clear hn hP
  go_enter Try.func69, Try.ntmps69
  go_wp2
  go_loopw [3, 4] (fun v i wr => ∃ (j : Nat), j ≤ n ∧ i = .int .i64 j ∧ OwnI wr w.heap.size v (pV L j) ∧ Below w.heap.size w wr) (fun _ i _ => n - (intOf i).toNat)
  case atStart => exact ⟨0, Nat.zero_le _, rfl, OwnI.empty _ (Nat.le_refl _) rfl, (Below.refl _ _).alloc (Nat.le_refl _) _⟩
  case round =>
    obtain ⟨j, hj, rfl, hown, hbel⟩ := hrel
    have hbs := hbel.size
    have hyl := HVF.out.2 j hj
    by_cases hlt : j < n
    · obtain ⟨b, off, u, rfl, hb, g0, g1, hu, -⟩ := hc j hlt
      replace g0 := (hbel.cell (p := ⟨b, off + j * 2, none⟩) hb).trans g0
      replace g1 := (hbel.cell (p := ⟨b, off + j * 2 + 1, none⟩) hb).trans g1
      replace hu := (hu.below hbel (Nat.le_refl _)).up hbs
      obtain ⟨au, cu, hau⟩ : ∃ a cap, u = .slice a (pP L j).length cap := ⟨_, _, hu.choose_spec.choose_spec.1⟩
      subst hau
      obtain ⟨⟨c0, c1⟩, hP, hT⟩ := sgB_yes (HF.out.2.1 j hlt)
      obtain ⟨cn, hcn⟩ : ∃ cn : Nat, pC L j = cn := ⟨(pC L j).toNat, by omega⟩
      have HSU : Hid (pV L (j + 1) = pV L j ++ valF (pP L j) 0 1 cn) := by show pV L j ++ _ = _; rw [hcn]; rfl
      have HPB := hid (PV_Bd hP)
      have hp7 := (PV_iff.1 hP).2.1
      have HVL := hid (valF_len (pP L j) 0 1 cn)
      rw [hcn] at g0 c0 c1
      have hcn0 : 0 < cn := by omega
      have hcn1 : cn ≤ 60 := by omega
      have q0 : 0 ≤ (j : Int) := by omega
      have q1 : (j : Int) < n := by omega
      clear hc hcn hP hT
      go_wp2_with fail
      go_region_held3 (fun w' => w'.cell? ⟨b, off + j * 2, none⟩ = some (.int .i64 (cn : Int)) ∧ w'.cell? ⟨b, off + j * 2 + 1, none⟩ = some (.slice au (pP L j).length cu))
        (first | exact ⟨g0, g1⟩ | exact HK2.out | exact HK.out | go_keep)
        (first
          | (go_at_call 56; refine (c_l2Values _ (pP L j) 0 1 cn wr.drew hu HPB.out hp7 (by omega) (by omega) (by omega) (fun j hj => by omega)).mono ?_; rintro e w9 ⟨v9, rfl, r9, b9⟩; have HK := hid (plv_cells b9 g0 g1); obtain ⟨g9, cap9, rfl, hcell9⟩ := r9.splitA (by rw [HVL.out]; exact hcn0); have HCL := hid hcell9; clear hcell9; have hown9 := (show OwnI wr.drew _ _ _ from hown).below b9 (Nat.le_refl _); have hs9 := b9.size)
          | (refine step_appMany rfl _ _ _ rfl Try.underlying29 Try.infoInt w.heap.size _ _ rfl hown9 _ cap9 (valF (pP L j) 0 1 cn) rfl HCL.out (by rw [HVL.out]; omega) (Nat.le_trans hbs hs9) ?_; intro v10 w10 hown10 hb10; have HK2 := hid (show w10.cell? ⟨b, off + j * 2, none⟩ = some (.int .i64 (cn : Int)) ∧ w10.cell? ⟨b, off + j * 2 + 1, none⟩ = some (.slice au (pP L j).length cu) from ⟨(hb10.cell (p := ⟨b, off + j * 2, none⟩) hb).trans HK.out.1, (hb10.cell (p := ⟨b, off + j * 2 + 1, none⟩) hb).trans HK.out.2⟩)))
      have b11 := (hbel.drew.trans (b9.mono (by show w.heap.size ≤ wr.heap.size; omega))).trans hb10
      clear HK HK2
      go_wp2
      go_roundw
      case rel => exact ⟨j + 1, by omega, by go_num, by rw [HSU.out]; exact hown10, b11⟩
      case measure => simp [intOf]; omega
    · obtain rfl : j = n := by omega
      clear hc
      go_wp2
      go_ret
      exact ⟨_, rfl, hown.rw HVF.out.1 (Nat.le_refl _), hbel⟩
theorem c_sPlanValues (w : World) (v : Value) (L : List (Int × List Int)) (hv : IsS w w.heap.size v L) (hl : L.length ≤ 1048576) :
    Calls Try.prog 36 #[v] w (RetRowB w (plV L) (PLV L)) := by
  obtain ⟨av, capv, hva⟩ : ∃ a cap, v = .slice a L.length cap := ⟨_, _, hv.choose_spec.choose_spec.1⟩
  subst hva
  by_cases hP : PLV L = true
  · have HR := hid (plV_yes hP)
    rw [HR.out, hP]
    go_enter Try.func36, Try.ntmps36
    go_wp2_with fail
    refine (c_sPlanValid _ L _ hl hv).mono ?_
    rw [hP]
    rintro e w1 ⟨rfl, b1⟩
    have s1 := b1.size
    go_wp2_with fail
    refine (c_l5Values _ L _ ((hv.below b1 (Nat.le_refl _)).up s1) hP).mono ?_
    rintro e w2 ⟨v2, rfl, r2, b2⟩
    go_wp2
    go_ret2
    exact ⟨_, rfl, r2.down s1, b1.trans (b2.mono s1)⟩
  · have hP' : PLV L = false := by simpa using hP
    have HR := hid (plV_no hP')
    rw [HR.out, hP']
    clear hP
    go_enter Try.func36, Try.ntmps36
    go_wp2_with fail
    refine (c_sPlanValid _ L _ hl hv).mono ?_
    rw [hP']
    rintro e w1 ⟨rfl, b1⟩
    have s1 := b1.size
    go_wp2
    go_ret2
    exact ⟨_, rfl, (RetRow.e0 w1 rfl).down s1, b1.alloc s1 _⟩
theorem c_iPlanValues (w : World) (v : Value) (L : List (Int × List Int)) (hv : IsS w w.heap.size v L) (hl : L.length ≤ 1048576) :
    Calls Try.prog 37 #[v] w (RetRowB w (plV L) (PLV L)) := by
  have hv0 := hv
  obtain ⟨a, cap, rfl, hm, hc⟩ := hv
  unfold maxLen at hm
  by_cases hP : PLV L = true
  · have HR := hid (plV_yes hP)
    have HF := hid (PLV_facts hP)
    have HVF := hid (pV_facts hP)
    have h60 := HF.out.1.2
    have HP := hid hP
    obtain ⟨n, hn⟩ : ∃ n, L.length = n := ⟨_, rfl⟩
    have HN := hid hn
    rw [HR.out, hP]
    rw [hn] at hm hc hv0 HF HVF h60 ⊢
    clear hn hP hl
    go_enter Try.func37, Try.ntmps37
    go_wp2_with fail
    refine (c_iPlanValid _ L _ hv0).mono ?_
    rw [HP.out]
    rintro e w1 ⟨rfl, b1⟩
    clear hv0
    go_wp2
    go_loopw [4, 14] (fun v i wr => ∃ (j : Nat), j ≤ n ∧ i = .int .i64 j ∧ OwnI wr w.heap.size v (pV L j) ∧ Below w.heap.size w wr) (fun _ i _ => n - (intOf i).toNat)
    case atStart => exact ⟨0, Nat.zero_le _, rfl, OwnI.nil _ _, b1⟩
    case round =>
      clear b1
      obtain ⟨j, hj, rfl, hown, hbel⟩ := hrel
      have hbs := hbel.size
      have hyl := HVF.out.2 j hj
      by_cases hlt : j < n
      · obtain ⟨b, off, u, rfl, hb, g0, g1, hu, -⟩ := hc j hlt
        replace g0 := (hbel.cell (p := ⟨b, off + j * 2, none⟩) hb).trans g0
        replace g1 := (hbel.cell (p := ⟨b, off + j * 2 + 1, none⟩) hb).trans g1
        replace hu := (hu.below hbel (Nat.le_refl _)).up hbs
        obtain ⟨au, cu, hau⟩ : ∃ a cap, u = .slice a (pP L j).length cap := ⟨_, _, hu.choose_spec.choose_spec.1⟩
        subst hau
        obtain ⟨⟨c0, c1⟩, hP, hT⟩ := sgB_yes (HF.out.2.1 j hlt)
        obtain ⟨cn, hcn⟩ : ∃ cn : Nat, pC L j = cn := ⟨(pC L j).toNat, by omega⟩
        have HSU : Hid (pV L (j + 1) = pV L j ++ valF (pP L j) 0 1 cn) := by show pV L j ++ _ = _; rw [hcn]; rfl
        have HP2 := hid hP
        have HVL := hid (valF_len (pP L j) 0 1 cn)
        rw [hcn] at g0 c0 c1
        have hcn1 : cn ≤ 60 := by omega
        have hu1 := (hu.alloc (.cells #[.int .i64 (cn : Int), .slice au (pP L j).length cu] 40) (Nat.le_refl _)).up (show wr.heap.size ≤ (wr.alloc (.cells #[.int .i64 (cn : Int), .slice au (pP L j).length cu] 40)).heap.size by simp)
        have bA := RetRow.e1 wr (.cells #[.int .i64 (cn : Int), .slice au (pP L j).length cu] 40)
        have hownA := hown.below bA (Nat.le_refl _)
        have b1 := hbel.trans (bA.mono hbs)
        have hs1 := b1.size
        clear hc hu hbel hcn hP hT bA hown
        go_wp2_with fail
        refine (c_ValuesOfY _ (pP L j) 0 cn _ hu1 HP2.out (by omega) hcn1 (by omega)).mono ?_
        rintro e w2 ⟨v2, rfl, r2, b2⟩
        have hown2 := hownA.below b2 (Nat.le_refl _)
        have b3 := b1.trans (b2.mono hs1)
        have hs3 := b3.size
        clear b1 b2 g0 g1 hownA hu1
        go_wp2_with (at_builtin; refine wpList_appIs rfl _ _ _ rfl Try.underlying29 Try.infoInt w.heap.size _ (pV L j) (by rfl) hown2 _ _ (valF (pP L j) 0 1 cn) r2.isI (by rfl) (by rw [HVL.out]; omega) hs3 ?_; intro v4 w4 hown4 hb4)
        go_roundw
        case rel => exact ⟨j + 1, by omega, by go_num, by rw [HSU.out]; exact hown4, b3.trans hb4⟩
        case measure => simp [intOf]; omega
      · obtain rfl : j = n := by omega
        clear hc
        go_wp2
        go_ret2
        exact ⟨_, rfl, hown.rw HVF.out.1 (Nat.le_refl _), hbel⟩
  · have hP' : PLV L = false := by simpa using hP
    have HR := hid (plV_no hP')
    rw [HR.out, hP']
    clear hP hc
    go_enter Try.func37, Try.ntmps37
    go_wp2_with fail
    refine (c_iPlanValid _ L _ hv0).mono ?_
    rw [hP']
    rintro e w1 ⟨rfl, b1⟩
    go_wp2
    go_ret2
    exact ⟨_, rfl, Rw.nil _ _ _, b1⟩
end Go.Proofs.Ytahbfcnailfkoaa
