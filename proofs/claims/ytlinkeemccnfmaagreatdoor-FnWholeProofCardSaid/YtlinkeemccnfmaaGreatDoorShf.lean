/- What is proved here: those statements of Shf that this claim needs. -/
import Derived.Test.YtlinkeemccnfmaaGreatDoorPlnP
set_option linter.unusedVariables false
set_option linter.unusedSimpArgs false
namespace Go.Proofs.YtlinkeemccnfmaaGreatDoor
open Go.RowKit
theorem ch_pascalR : ((List.range 420).all fun i => (List.range 6).all fun k => decide (chF ((i : Int) - 210 + 1) (k + 1) = chF ((i : Int) - 210) (k + 1) + chF ((i : Int) - 210) k)) = true := by decide +kernel
theorem ch_pas {n : Int} (hn : -210 ≤ n ∧ n < 210) {k : Nat} (hk : k < 6) : chF (n + 1) (k + 1) = chF n (k + 1) + chF n k := by
  have h := ch_pascalR
  rw [List.all_eq_true] at h
  have h1 := h (n + 210).toNat (List.mem_range.2 (by omega))
  rw [List.all_eq_true] at h1
  have h2 := h1 k (List.mem_range.2 hk)
  rw [decide_eq_true_eq] at h2
  rwa [show (((n + 210).toNat : Nat) : Int) - 210 = n by omega] at h2
def chB : Nat → Int
  | 0 => 1
  | 1 => 211
  | 2 => 23000
  | 3 => 1700000
  | 4 => 90000000
  | 5 => 4000000000
  | _ => 130000000000
theorem ch_bdR : ((List.range 421).all fun i => (List.range 7).all fun k => decide (-chB k ≤ chF ((i : Int) - 210) k ∧ chF ((i : Int) - 210) k ≤ chB k)) = true := by decide +kernel
theorem ch_b {n : Int} (hn : -210 ≤ n ∧ n ≤ 210) {k : Nat} (hk : k < 7) : -chB k ≤ chF n k ∧ chF n k ≤ chB k := by
  have h := ch_bdR
  rw [List.all_eq_true] at h
  have h1 := h (n + 210).toNat (List.mem_range.2 (by omega))
  rw [List.all_eq_true] at h1
  have h2 := h1 k (List.mem_range.2 hk)
  rw [decide_eq_true_eq] at h2
  rwa [show (((n + 210).toNat : Nat) : Int) - 210 = n by omega] at h2
def chS : Nat → Int
  | 0 => 0
  | k + 1 => chS k + 100000 * chB k
theorem chS_le : ∀ k, k ≤ 7 → chS k ≤ 20000000000000000 := by decide
theorem evT_b {p : List Int} {n : Int} (hp : Bd 100000 p) (hl : p.length ≤ 7) (hn : -210 ≤ n ∧ n ≤ 210) : ∀ k, k ≤ p.length → -chS k ≤ evT p n k ∧ evT p n k ≤ chS k := by
  intro k
  induction k with
  | zero => intro _; exact ⟨Int.le_refl _, Int.le_refl _⟩
  | succ k ih =>
    intro hk
    obtain ⟨i1, i2⟩ := ih (by omega)
    obtain ⟨h1, h2⟩ := hp k (by omega)
    obtain ⟨h3, h4⟩ := ch_b hn (show k < 7 by omega)
    obtain ⟨h5, h6⟩ := mul_bd (a := el p k) (b := chF n k) (A := 100000) (B := chB k) (by omega) h1 h2 h3 h4
    rw [evT, chS]; omega
theorem evF_b {p : List Int} {n : Int} (hp : Bd 100000 p) (hl : p.length ≤ 7) (hn : -210 ≤ n ∧ n ≤ 210) : -20000000000000000 ≤ evF p n ∧ evF p n ≤ 20000000000000000 := by
  have := evT_b hp hl hn p.length (Nat.le_refl _)
  have := chS_le p.length hl
  unfold evF; omega
theorem Bd_drop' {b : Int} {xs : List Int} (h : Bd b xs) (n : Nat) : Bd b (xs.drop n) := fun k hk => by
  rw [List.length_drop] at hk; rw [el_drop]; exact h _ (by omega)
theorem evT_step {p : List Int} {n : Int} (hn : -210 ≤ n ∧ n < 210) {k : Nat} : ∀ m, m ≤ 6 → evT (p.drop k) (n + 1) (m + 1) = evT (p.drop k) n (m + 1) + evT (p.drop (k + 1)) n m := by
  intro m
  induction m with
  | zero => intro _; simp [evT, chF]
  | succ m ih =>
    intro h
    rw [evT, ih (by omega), ch_pas hn (by omega), Int.mul_add]
    rw [show evT (p.drop k) n (m + 1 + 1) = evT (p.drop k) n (m + 1) + el (p.drop k) (m + 1) * chF n (m + 1) from rfl, show evT (p.drop (k + 1)) n (m + 1) = evT (p.drop (k + 1)) n m + el (p.drop (k + 1)) m * chF n m from rfl]
    rw [el_drop, el_drop, show k + 1 + m = k + (m + 1) by omega]
    omega
theorem evF_step {p : List Int} (hl : p.length ≤ 7) {n : Int} (hn : -210 ≤ n ∧ n < 210) {k : Nat} (hk : k < p.length) : evF (p.drop k) (n + 1) = evF (p.drop k) n + evF (p.drop (k + 1)) n := by
  obtain ⟨m, hm⟩ : ∃ m, p.length - k = m + 1 := ⟨p.length - k - 1, by omega⟩
  unfold evF
  rw [List.length_drop, List.length_drop, hm, show p.length - (k + 1) = m by omega]
  exact evT_step hn m (by omega)
theorem dN_val {p : List Int} (hl : p.length ≤ 7) {n : Int} {m : Nat} (hn : -210 ≤ n ∧ n + m ≤ 210) : ∀ k, k ≤ p.length → ∀ i, i + k < m → el (dN (valF p n 1 m) k) i = evF (p.drop k) (n + i) := by
  intro k
  induction k with
  | zero => intro _ i hi; rw [dN, valF_el (by omega), List.drop_zero, Int.one_mul]
  | succ k ih =>
    intro hk i hi
    have h1 := ih (by omega) (i + 1) (by omega)
    have h2 := ih (by omega) i (by omega)
    rw [dN, dF_el (by rw [dN_len, valF_len]; omega), h1, h2, show n + ((i + 1 : Nat) : Int) = n + i + 1 by omega, evF_step hl ⟨by omega, by omega⟩ (by omega)]
    omega
def shQ (p : List Int) (n : Int) : List Int := (List.range p.length).map fun k => evF (p.drop k) n
theorem shQ_len (p : List Int) (n : Int) : (shQ p n).length = p.length := by simp [shQ]
theorem shQ_el {p : List Int} {n : Int} {k : Nat} (h : k < p.length) : el (shQ p n) k = evF (p.drop k) n := by
  unfold shQ; rw [el_map _ _ _ (by simpa using h)]; simp
theorem shL_fD {p : List Int} (hl : p.length ≤ 7) {n : Int} (hn : -200 ≤ n ∧ n ≤ 200) : fD (valF p n 1 p.length) = shQ p n := by
  refine list_ext (by rw [fD_len, valF_len, shQ_len]) fun k hk => ?_
  rw [fD_len, valF_len] at hk
  rw [fD_el (by rw [valF_len]; exact hk), dN_val hl ⟨by omega, by omega⟩ k (by omega) 0 (by omega), shQ_el hk, show n + ((0 : Nat) : Int) = n by omega]
theorem shL_bd {p : List Int} (hp : Bd 100000 p) (hl : p.length ≤ 7) {n : Int} (hn : -200 ≤ n ∧ n ≤ 200) : Bd 20000000000000000 (shQ p n) := by
  intro k hk
  rw [shQ_len] at hk
  rw [shQ_el hk]
  exact evF_b (Bd_drop' hp k) (by rw [List.length_drop]; omega) ⟨by omega, by omega⟩
theorem dN_vbd {p : List Int} (hp : Bd 100000 p) (hl : p.length ≤ 7) {n : Int} (hn : -200 ≤ n ∧ n ≤ 200) : ∀ k, k ≤ 7 → Bd 20000000000000000 (dN (valF p n 1 p.length) k) := by
  intro k hk i hi
  rw [dN_len, valF_len] at hi
  rw [dN_val hl ⟨by omega, by omega⟩ k (by omega) i (by omega)]
  exact evF_b (Bd_drop' hp k) (by rw [List.length_drop]; omega) ⟨by omega, by omega⟩
def shOk (p : List Int) (n : Int) : Bool := PV p && (inB n (-200) 200 && PV (shQ p n))
def shR (p : List Int) (n : Int) : List Int := if shOk p n then shQ p n else []
theorem shR_yes {p : List Int} {n : Int} (h : shOk p n = true) : shR p n = shQ p n := by simp [shR, h]
theorem shR_no {p : List Int} {n : Int} (h : shOk p n = false) : shR p n = [] := by simp [shR, h]
theorem shR_pv {p : List Int} {n : Int} (hP : PV p = true) (hn : inB n (-200) 200 = true) : shOk p n = PV (shQ p n) ∧ shR p n = pvL (shQ p n) := by
  have h1 : shOk p n = PV (shQ p n) := by simp [shOk, hP, hn]
  exact ⟨h1, by unfold shR pvL; rw [h1]⟩
set_option maxHeartbeats 800000 in
theorem c_l2DiffsG (v : Value) (xs : List Int) (w : World) (hv : IsI w w.heap.size v xs) (hl : xs.length ≤ 7) (hb : ∀ k, k ≤ 7 → Bd 20000000000000000 (dN xs k)) :
    Calls Tryz.prog 78 #[v] w (RetRow w (fD xs)) := by
  obtain ⟨av, capv, hva⟩ : ∃ a cap, v = .slice a xs.length cap := ⟨_, _, hv.choose_spec.choose_spec.1⟩
  subst hva
  have HB := hid hb
  have HFR := hid (show R64 (fD xs) from R64.of_el fun k hk => by
    rw [fD_len] at hk
    rw [fD_el hk]
    have h1 := hb k (by omega)
    have h2 := h1 0 (by rw [dN_len]; omega)
    omega)
  have HFL := hid (fD_len xs)
  have hown0 : OwnI (w.alloc (.cells #[] 3)) w.heap.size (.slice (some ⟨w.heap.size, 0, none⟩) 0 0) [] := OwnI.empty w (Nat.le_refl _) rfl
  have b0 : Below w.heap.size w (w.alloc (.cells #[] 3)) := RetRow.e1 _ _
  have hv1 := hv.below b0 (Nat.le_refl _)
  have HOW := hid hown0
  have hap := hv.apart
  clear hb hown0 hv
  go_enter Tryz.func78, Tryz.ntmps78
  go_wp2
  go_loopw [0, 3] (fun u rv wr => ∃ (j : Nat) (vr : Value) (au : Option Addr) (capu B : Nat), u = .slice au (xs.length - j) capu ∧ rv = vr ∧ j ≤ xs.length ∧ Hid (OwnI wr w.heap.size vr ((fD xs).take j)) ∧ B ≤ wr.heap.size ∧ IsI wr B (.slice au (xs.length - j) capu) (dN xs j) ∧ Hid (Apart (.slice au (xs.length - j) capu) vr.ownBlock) ∧ Below w.heap.size w wr) (fun u _ _ => match u with | .slice _ n _ => n | _ => 0)
  case atStart => exact ⟨0, _, av, capv, w.heap.size, rfl, rfl, Nat.zero_le _, HOW, by simp, hv1, hap, b0⟩
  case round =>
    clear hv1 b0 hap
    obtain ⟨j, vr, au, capu, B, rfl, rfl, hj, HO, hB, hr, HA, hbel⟩ := hrel
    have hbs := hbel.size
    have HLEN := hid (dN_len xs j)
    by_cases hlt : j < xs.length
    · have k1 : 0 < xs.length - j := by omega
      have k2 : (0 : Int) < ((xs.length - j : Nat) : Int) := by omega
      obtain ⟨a', cap', he, hm', -, hc'⟩ := id hr
      simp only [Value.slice.injEq] at he
      obtain ⟨rfl, -, rfl⟩ := he
      obtain ⟨b, off, rfl, hbB, hcell⟩ := hc' 0 (by rw [HLEN.out]; omega)
      have g0 := hcell 0 (by rw [HLEN.out]; omega)
      rw [Nat.add_zero] at g0
      have hyl : ((fD xs).take j).length ≤ 7 := by rw [List.length_take]; omega
      have HTK := hid (fD_take hlt)
      have HDB := hid (HB.out j (by omega))
      clear hc' hcell hm'
      go_wp2_with (at_builtin; refine wpList_appIG rfl _ _ _ rfl Tryz.underlying23 Tryz.infoInt w.heap.size _ ((fD xs).take j) (by rfl) (by rfl) HO.out (by omega) hbs ?_; intro v2 w2 hown2 hg2 hb2; have HO2 := hid hown2; have HG2 := hid hg2; clear hown2 hg2)
      have s2 : wr.heap.size + 1 ≤ w2.heap.size := by have := HG2.out.size; simpa using this
      have hr2 := (hr.alloc (.cells #[.int .i64 (el (dN xs j) 0)] 3) hB).grownG (by simp; omega) HA.out HG2.out
      have hb3 := hbel.trans hb2
      go_wp2_with fail
      refine (c_l2Next _ (dN xs j) 20000000000000000 _ (hr2.up (by omega)) (by omega) HDB.out (by rw [HLEN.out]; omega)).mono ?_
      rintro e w3 ⟨v3, rfl, r3, b3⟩
      have s3 := b3.size
      obtain ⟨a3, cap3, hv3⟩ : ∃ a cap, v3 = .slice a (dF (dN xs j)).length cap := ⟨_, _, r3.isI.choose_spec.choose_spec.1⟩
      have hl3 : (dF (dN xs j)).length = xs.length - (j + 1) := by rw [dF_len, HLEN.out]; omega
      rw [hl3] at hv3
      subst hv3
      have HO3 := hid (show OwnI w3 w.heap.size v2 ((fD xs).take (j + 1)) by rw [HTK.out]; exact ownsRow_of_block HO2.out fun k hk => b3.block k (HO2.out.lt k hk).2)
      have HA3 := hid (r3.apart (o := v2.ownBlock) (fun k hk => .inl (HO2.out.lt k hk).2))
      have b4 := hb3.trans (b3.mono (by omega))
      have hi3 := r3.isI
      clear hr2 r3 b3 hb3 hb2 hr hl3
      go_wp2
      go_roundw
      case rel => exact ⟨j + 1, _, a3, cap3, _, rfl, rfl, by omega, HO3, Nat.le_refl _, hi3, HA3, b4⟩
      case measure => simp; omega
    · obtain rfl : j = xs.length := by omega
      have ho := HO.out
      rw [List.take_of_length_le (by rw [HFL.out]; omega)] at ho
      go_wp2
      go_ret
      exact ⟨_, rfl, ho.rw HFR.out (Nat.le_refl _), hbel⟩
theorem c_l2ResultG (v : Value) (xs : List Int) (w : World) (hv : IsI w w.heap.size v xs) (hl : xs.length ≤ 7) (hb : ∀ k, k ≤ 7 → Bd 20000000000000000 (dN xs k)) :
    Calls Tryz.prog 61 #[v] w (RetRowB w (pvL (fD xs)) (PV (fD xs))) := by
  by_cases hP : PV (fD xs) = true
  · rw [show pvL (fD xs) = fD xs from if_pos hP, hP]
    go_enter Tryz.func61, Tryz.ntmps61
    go_wp2_with fail
    refine (c_l2DiffsG _ xs _ hv hl hb).mono ?_
    rintro e w1 ⟨v1, rfl, r1, b1⟩
    go_wp2_with fail
    refine (c_sPolyValid _ _ _ _ r1.isI).mono ?_
    rw [hP]
    rintro e wx ⟨rfl, rfl⟩
    go_wp2
    go_ret2
    exact ⟨_, rfl, r1, b1⟩
  · have hP' : PV (fD xs) = false := by simpa using hP
    rw [show pvL (fD xs) = [] from if_neg hP, hP']
    go_enter Tryz.func61, Tryz.ntmps61
    go_wp2_with fail
    refine (c_l2DiffsG _ xs _ hv hl hb).mono ?_
    rintro e w1 ⟨v1, rfl, r1, b1⟩
    have s1 := b1.size
    go_wp2_with fail
    refine (c_sPolyValid _ _ _ _ r1.isI).mono ?_
    rw [hP']
    rintro e wx ⟨rfl, rfl⟩
    clear hP hP'
    go_wp2
    go_ret2
    exact ⟨_, rfl, (RetRow.e0 w1 rfl).down s1, b1.alloc s1 _⟩
theorem c_l2Argument (n : Int) (w : World) :
    Calls Tryz.prog 60 #[.int .i64 n] w fun e w' => e = .returned (.bool (inB n (-200) 200)) ∧ w = w' := by
  go_enter Tryz.func60, Tryz.ntmps60
  go_wp2_with fail
  refine (c_l1In _ _ _ _).mono ?_
  rintro e wx ⟨rfl, rfl⟩
  go_wp2
  go_ret
  exact ⟨rfl, rfl⟩
theorem c_sShiftPoly (w : World) (v : Value) (p : List Int) (hv : IsI w w.heap.size v p) (n : Int) :
    Calls Tryz.prog 27 #[v, .int .i64 n] w (RetRowB w (shR p n) (shOk p n)) := by
  obtain ⟨av, capv, hva⟩ : ∃ a cap, v = .slice a p.length cap := ⟨_, _, hv.choose_spec.choose_spec.1⟩
  subst hva
  by_cases hP : PV p = true
  · by_cases hn : inB n (-200) 200 = true
    · obtain ⟨h1, h2⟩ := shR_pv hP hn
      obtain ⟨n0, n1⟩ := inB_iff.1 hn
      have hl := (PV_iff.1 hP).2.1
      have HF := hid (shL_fD hl ⟨n0, n1⟩)
      have HB := hid (dN_vbd (PV_Bd hP) hl ⟨n0, n1⟩)
      have HPB := hid (PV_Bd hP)
      have HVL := hid (valF_len p n 1 p.length)
      rw [h1, h2, ← HF.out]
      clear h1 h2
      go_enter Tryz.func27, Tryz.ntmps27
      go_wp2_with fail
      refine (c_sPolyValid _ p _ _ hv).mono ?_
      rw [hP]
      rintro e wx ⟨rfl, rfl⟩
      go_wp2_with fail
      refine (c_l2Argument _ _).mono ?_
      rw [hn]
      rintro e wx ⟨rfl, rfl⟩
      go_wp2_with fail
      refine (c_l2Values _ p n 1 p.length _ hv HPB.out hl (by omega) (by omega) (by omega) (fun j hj => by omega)).mono ?_
      rintro e w1 ⟨v1, rfl, r1, b1⟩
      have s1 := b1.size
      go_wp2_with fail
      refine (c_l2ResultG _ _ _ r1.isI (by rw [HVL.out]; exact hl) HB.out).mono ?_
      rintro e w2 ⟨v2, rfl, r2, b2⟩
      go_wp2
      go_ret2
      exact ⟨_, rfl, r2.down s1, b1.trans (b2.mono s1)⟩
    · have hn' : inB n (-200) 200 = false := by simpa using hn
      have h1 : shOk p n = false := by simp [shOk, hn']
      rw [shR_no h1, h1]
      clear hn h1
      go_enter Tryz.func27, Tryz.ntmps27
      go_wp2_with fail
      refine (c_sPolyValid _ p _ _ hv).mono ?_
      rw [hP]
      rintro e wx ⟨rfl, rfl⟩
      go_wp2_with fail
      refine (c_l2Argument _ _).mono ?_
      rw [hn']
      rintro e wx ⟨rfl, rfl⟩
      go_wp2
      go_ret2
      exact ⟨_, rfl, RetRow.e0 w rfl, RetRow.e1 w _⟩
  · have hP' : PV p = false := by simpa using hP
    have h1 : shOk p n = false := by simp [shOk, hP']
    rw [shR_no h1, h1]
    clear hP h1
    go_enter Tryz.func27, Tryz.ntmps27
    go_wp2_with fail
    refine (c_sPolyValid _ p _ _ hv).mono ?_
    rw [hP']
    rintro e wx ⟨rfl, rfl⟩
    go_wp2
    go_ret2
    exact ⟨_, rfl, RetRow.e0 w rfl, RetRow.e1 w _⟩
theorem c_iShiftPoly (w : World) (v : Value) (p : List Int) (hv : IsI w w.heap.size v p) (n : Int) :
    Calls Tryz.prog 25 #[v, .int .i64 n] w (RetRowB w (shR p n) (shOk p n)) := by
  by_cases hP : PV p = true
  · by_cases hn : inB n (-200) 200 = true
    · obtain ⟨h1, h2⟩ := shR_pv hP hn
      obtain ⟨n0, n1⟩ := inB_iff.1 hn
      obtain ⟨hp1, hl, -⟩ := PV_iff.1 hP
      have HPB := hid (PV_Bd hP)
      have HSB := hid (shL_bd (PV_Bd hP) hl ⟨n0, n1⟩)
      have HL := hid (shQ_len p n)
      have HE := hid (fun k (hk : k < p.length) => shQ_el (n := n) hk)
      rw [h1, h2]
      clear h1 h2
      obtain ⟨a, cap, hva, hm, -, hcl⟩ := id hv
      subst hva
      obtain ⟨b, off, rfl, hb, -⟩ := hcl 0 (by omega)
      unfold maxLen at hm
      obtain ⟨hm1, hm2, -⟩ := hm
      clear hcl
      have hmk := mk_ints Tryz.underlying23 Tryz.infoInt p.length (by omega)
      have HM := made_zero p.length
      generalize madeCells #[Value.int .i64 0] p.length = mc at *
      have HM' : Hid (mc = ((List.replicate p.length (0 : Int)).map (Value.int .i64)).toArray) := HM
      have HB0 := hid (Blk.new (w := w) HM'.out)
      have b0 : Below w.heap.size w (w.alloc (.cells mc 3)) := RetRow.e1 _ _
      clear HM
      go_enter Tryz.func25, Tryz.ntmps25
      go_wp2_with fail
      refine (c_iPolyValid _ p _ _ hv).mono ?_
      rw [hP]
      rintro e wx ⟨rfl, rfl⟩
      go_wp2_with fail
      refine (c_within _ _ _ (by omega) (by omega)).mono ?_
      rw [hn]
      rintro e wx ⟨rfl, rfl⟩
      clear hn
      go_wp2
      go_loopw [21] (fun i wr => ∃ (j : Nat) (ys : List Int), j ≤ p.length ∧ i = .int .i64 j ∧ Blk wr w.heap.size ys ∧ Hid (ys.length = p.length) ∧ Hid (ys.take j = (shQ p n).take j) ∧ Below w.heap.size w wr) (fun i _ => p.length - (intOf i).toNat)
      case atStart => exact ⟨0, List.replicate p.length 0, Nat.zero_le _, rfl, HB0.out, by show _ = _; simp, by show _ = _; simp, b0⟩
      case round =>
        clear b0 hmk
        obtain ⟨j, ys, hj, rfl, HB, HLN, HT, hbel⟩ := hrel
        by_cases hlt : j < p.length
        · have hd := HB.cell j (by rw [HLN.out]; exact hlt)
          have hf := HB.free j
          have hvr := hv.below hbel (Nat.le_refl _)
          have hsub := hvr.sub (lo := j) (m := p.length - j) (by omega)
          rw [List.take_of_length_le (by rw [List.length_drop]; omega)] at hsub
          have hev := evF_b (Bd_drop' HPB.out j) (by rw [List.length_drop]; omega) (n := n) ⟨by omega, by omega⟩
          have HEJ := hid (HE.out j hlt)
          have q1 : (j : Int) < cap := by omega
          have q2 : ¬ cap = j := by omega
          have q3 : (j : Int) ≤ p.length := by omega
          go_wp2_with fail
          refine (c_valueAt _ (p.drop j) _ _ _ hsub (Bd_drop' HPB.out j) ⟨by omega, by omega⟩ (by rw [List.length_drop]; omega)).mono ?_
          rintro e wx ⟨rfl, rfl⟩
          clear hvr hsub
          go_wp2
          go_roundw
          case rel => exact ⟨j + 1, ys.set j (evF (p.drop j) n), by omega, by go_num, HB.set _ _, by show _ = _; simpa using HLN.out, take_set (by rw [HL.out]; exact hlt) (by rw [HL.out, HLN.out]) HEJ.out.symm HT.out, hbel.setCell (Nat.le_refl _) _⟩
          case measure => simp [intOf]; omega
        · obtain rfl : j = p.length := by omega
          have e1 := HT.out
          rw [List.take_of_length_le (by rw [HLN.out]; omega), List.take_of_length_le (by rw [HL.out]; omega)] at e1
          subst e1
          have hlt' := HB.lt
          have hrw := HB.rw (Nat.le_refl _) hlt' (by rw [HL.out]; unfold maxLen; omega) (HSB.out.r64 (by omega))
          rw [HL.out] at hrw
          by_cases hP2 : PV (shQ p n) = true
          · have HV := hid (show pvL (shQ p n) = shQ p n from if_pos hP2)
            have HP2 := hid hP2
            go_wp2_with fail
            refine (c_checkedY _ _ _ _ hrw.isI hP2).mono ?_
            rintro e wx ⟨rfl, rfl⟩
            go_wp2
            go_ret2
            exact ⟨.slice (some ⟨w.heap.size, 0, none⟩) p.length p.length, by rw [HP2.out]; rfl, by rw [HV.out]; exact hrw, hbel⟩
          · have hP2' : PV (shQ p n) = false := by simpa using hP2
            have HV := hid (show pvL (shQ p n) = [] from if_neg hP2)
            have HP2 := hid hP2'
            clear hP2
            go_wp2_with fail
            refine (c_checkedN _ _ _ _ hrw.isI hP2').mono ?_
            rintro e wx ⟨rfl, rfl⟩
            go_wp2
            go_ret2
            exact ⟨.slice none 0 0, by rw [HP2.out]; rfl, by rw [HV.out]; exact Rw.nil _ _ _, hbel⟩
    · have hn' : inB n (-200) 200 = false := by simpa using hn
      have h1 : shOk p n = false := by simp [shOk, hn']
      rw [shR_no h1, h1]
      clear hn h1
      go_enter Tryz.func25, Tryz.ntmps25
      go_wp2_with fail
      refine (c_iPolyValid _ p _ _ hv).mono ?_
      rw [hP]
      rintro e wx ⟨rfl, rfl⟩
      go_wp2_with fail
      refine (c_within _ _ _ (by omega) (by omega)).mono ?_
      rw [hn']
      rintro e wx ⟨rfl, rfl⟩
      go_wp2
      go_ret2
      exact ⟨_, rfl, Rw.nil _ _ _, Below.refl _ _⟩
  · have hP' : PV p = false := by simpa using hP
    have h1 : shOk p n = false := by simp [shOk, hP']
    rw [shR_no h1, h1]
    clear hP h1
    go_enter Tryz.func25, Tryz.ntmps25
    go_wp2_with fail
    refine (c_iPolyValid _ p _ _ hv).mono ?_
    rw [hP']
    rintro e wx ⟨rfl, rfl⟩
    go_wp2
    go_ret2
    exact ⟨_, rfl, Rw.nil _ _ _, Below.refl _ _⟩
end Go.Proofs.YtlinkeemccnfmaaGreatDoor
