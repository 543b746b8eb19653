/- What is proved here: contracts of firstDifferences, l2Diffs, PolyValid, checked, l2Result. -/
import Derived.Test.YtkiebajggombiaaLdg
import Derived.Test.YtkiebajggombiaaDt
import Derived.Test.YtkiebajggombiaaPol2
set_option linter.unusedVariables false
set_option linter.unusedSimpArgs false
namespace Go.Proofs.Ytkiebajggombiaa
open Go.RowKit

/-- The block in which a slice begins is not the one that another slice owns. -/
def Apart (u : Value) (o : Option Nat) : Prop := ∀ a n c, u = .slice (some a) n c → 0 < n → some a.block ≠ o
theorem IsI.grownG {w w' : World} {B : Nat} {u : Value} {xs : List Int} {o : Option Nat} (h : IsI w B u xs) (hB : B ≤ w.heap.size) (ha : Apart u o) (hg : w.grownBy w' o) : IsI w' B u xs := by
  obtain ⟨a, cap, rfl, hm, hr, hc⟩ := h
  refine ⟨a, cap, rfl, hm, hr, fun i hi => ?_⟩
  obtain ⟨b, off, rfl, hb, hcell⟩ := hc i hi
  exact ⟨b, off, rfl, hb, fun j hj => (World.cell?_of_block (w := w) (a := ⟨b, off + j, none⟩) (hg.block b (by omega) (ha _ _ _ rfl (by omega)))).trans (hcell j hj)⟩
theorem Rw.apart {w : World} {lo hi : Nat} {u : Value} {xs : List Int} (h : Rw w lo hi u xs) {o : Option Nat} (ho : ∀ k, o = some k → k < lo ∨ hi ≤ k) : Apart u o := by
  intro a n c hu _ e
  rcases h.1.2 with ⟨hn, _⟩ | ⟨g, cap, cur, hg, hbg, _⟩
  · rw [hn] at hu; cases hu
  · rw [hg] at hu
    simp only [Value.slice.injEq, Option.some.injEq] at hu
    have := h.2.1 g (by rw [hg]; rfl)
    have h2 := ho _ e.symm
    rw [← hu.1] at h2
    simp only at h2
    omega
theorem IsI.apart {w : World} {u : Value} {xs : List Int} (h : IsI w w.heap.size u xs) : Apart u (some w.heap.size) := by
  intro a n c he hn e
  obtain ⟨a', cap', he', hm', -, hc'⟩ := h
  rw [he'] at he
  simp only [Value.slice.injEq] at he
  obtain ⟨b, off, ha, hb, _⟩ := hc' 0 (by omega)
  rw [ha] at he
  simp only [Option.some.injEq] at he e
  rw [← he.1] at e
  simp only at e
  omega
/-- The first numbers of a list, of its differences, and so on. -/
def fD (xs : List Int) : List Int := (List.range xs.length).map fun i => el (dN xs i) 0
theorem fD_len (xs : List Int) : (fD xs).length = xs.length := by simp [fD]
theorem fD_el {xs : List Int} {k : Nat} (h : k < xs.length) : el (fD xs) k = el (dN xs k) 0 := by
  unfold fD; rw [el_map _ _ _ (by simpa using h)]; simp
theorem fD_take {xs : List Int} {j : Nat} (h : j < xs.length) : (fD xs).take (j + 1) = (fD xs).take j ++ [el (dN xs j) 0] := by
  rw [take_el (by rw [fD_len]; exact h), fD_el h]
theorem dN_bd7 {b : Int} {xs : List Int} (h : Bd b xs) (h0 : 0 ≤ b) {n : Nat} (hn : n ≤ 7) : Bd (128 * b) (dN xs n) := by
  refine (dN_bd h n).mono ?_
  have h2 : (2 : Int) ^ n ≤ 2 ^ 7 := by
    have h1 : (2 : Nat) ^ n ≤ 2 ^ 7 := Nat.pow_le_pow_right (by omega) hn
    exact_mod_cast h1
  have := Int.mul_le_mul_of_nonneg_right h2 h0
  omega
theorem mk_ints0 {P : Program} {T : TypeId} (hT : P.underlying T = some (.slice 3)) (h : (P.info? 3).map (fun i => (i.zero, i.size, i.bytes)) = some (some (.int .i64 0), 1, 8)) (n : Nat) (hn : n ≤ 1099511627776) (W : World) :
    (Instr.makeSlice T (.int .i64 0) (.int .i64 n)).run P W = .ok (.slice (some ⟨W.heap.size, 0, none⟩) 0 n) (W.alloc (.cells (madeCells #[.int .i64 0] n) 3)) := by
  obtain ⟨i0, hi, hz0, hz1, hz2⟩ := info_parts h
  have h := run_make (P := P) W T 3 i0 _ hT hi hz0 .i64 .i64 0 n (by omega) (by omega) (by rw [hz2]; omega) (by omega)
  simpa [hz1, Value.cells] using h
/-- The append of one int, told with what has grown. -/
theorem wpList_appIG {P : Program} {ops : Array Oper} {rest : List Oper} {o : Oper} {a : Act} {Q : Exit → Act → World → Prop} {w : World} {y : Int} (hgd : o.guard = none) (s x : Operand) (T : TypeId)
    (ho : o.op = .call { callee := .builtin .append, args := #[s, x], argTypes := #[T, T] }) (hT : P.underlying T = some (.slice 3))
    (hinf : (P.info? 3).map (fun i => (i.zero, i.size, i.bytes)) = some (some (.int .i64 0), 1, 8))
    (B : Nat) (v : Value) (xs : List Int) (hs : a.eval s = v) (hx : a.eval x = .slice (some ⟨w.heap.size, 0, none⟩) 1 1) (hown : OwnI w B v xs) (hn : xs.length ≤ 1099511627776) (hbase : B ≤ w.heap.size)
    (h : ∀ v' w', OwnI w' B v' (xs ++ [y]) → (w.alloc (.cells #[.int .i64 y] 3)).grownBy w' v.ownBlock → Below B w w' → wpList P ops Q rest (a.put o.dst v') w') :
    wpList P ops Q (o :: rest) a (w.alloc (.cells #[.int .i64 y] 3)) := by
  obtain ⟨i0, hi, hz0, hz1, hz2⟩ := info_parts hinf
  refine wpList_appG (news := [.int .i64 y]) hgd s x T ho B 3 i0 _ 1 8 hT hi hz0 hz1 hz2 rfl (by omega) v _ _ hs hown hx rfl (by simp [Value.oneCell']) hn (by omega) hbase fun v' w' h1 h2 h3 => h v' w' ?_ h2 h3
  unfold OwnI
  simpa using h1
set_option maxHeartbeats 800000 in
theorem c_firstDifferences (v : Value) (xs : List Int) (w : World) (hv : IsI w w.heap.size v xs) (hl : xs.length ≤ 7) (hb : Bd 1000000000 xs) :
    Calls Try.prog 104 #[v] w (RetRow w (fD xs)) := by
  obtain ⟨av, capv, hva⟩ : ∃ a cap, v = .slice a xs.length cap := ⟨_, _, hv.choose_spec.choose_spec.1⟩
  subst hva
  have HB := hid hb
  have HFR := hid (show R64 (fD xs) from R64.of_el fun k hk => by
    rw [fD_len] at hk
    rw [fD_el hk]
    have h1 := dN_bd7 hb (by omega) (show k ≤ 7 by omega)
    have h2 := h1 0 (by rw [dN_len]; omega)
    omega)
  have HFL := hid (fD_len xs)
  have hmk := mk_ints0 Try.underlying23 Try.infoInt xs.length (by omega)
  have hms : (madeCells #[Value.int .i64 0] xs.length).size = xs.length := size_madeCells _ _
  generalize madeCells #[Value.int .i64 0] xs.length = mc at *
  have hown0 : OwnI (w.alloc (.cells mc 3)) w.heap.size (.slice (some ⟨w.heap.size, 0, none⟩) 0 xs.length) [] := World.ownsRow_made w mc xs.length (Nat.le_refl _) (by unfold maxLen; omega) (by rw [hms]; omega)
  have b0 : Below w.heap.size w (w.alloc (.cells mc 3)) := RetRow.e1 _ _
  have hv1 := hv.below b0 (Nat.le_refl _)
  have HOW := hid hown0
  have hap := hv.apart
  clear hms hb hown0 hv
  go_enter Try.func104, Try.ntmps104
  go_wp2
  go_loopw [3, 4] (fun rv u wr => ∃ (j : Nat) (vr : Value) (au : Option Addr) (capu B : Nat), rv = vr ∧ u = .slice au (xs.length - j) capu ∧ j ≤ xs.length ∧ Hid (OwnI wr w.heap.size vr ((fD xs).take j)) ∧ B ≤ wr.heap.size ∧ IsI wr B (.slice au (xs.length - j) capu) (dN xs j) ∧ Hid (Apart (.slice au (xs.length - j) capu) vr.ownBlock) ∧ Below w.heap.size w wr) (fun _ u _ => match u with | .slice _ n _ => n | _ => 0)
  case atStart => exact ⟨0, _, av, capv, w.heap.size, rfl, rfl, Nat.zero_le _, HOW, by simp, hv1, hap, b0⟩
  case round =>
    clear hv1 b0 hap hmk
    obtain ⟨j, vr, au, capu, B, rfl, rfl, hj, HO, hB, hr, HA, hbel⟩ := hrel
    have hbs := hbel.size
    have HLEN := hid (dN_len xs j)
    by_cases hlt : j < xs.length
    · have k1 : 0 < xs.length - j := by omega
      have k2 : (0 : Int) < ((xs.length - j : Nat) : Int) := by omega
      obtain ⟨a', cap', he, hm', -, hc'⟩ := id hr
      simp only [Value.slice.injEq] at he
      obtain ⟨rfl, -, rfl⟩ := he
      obtain ⟨b, off, rfl, hbB, hcell⟩ := hc' 0 (by rw [HLEN.out]; omega)
      have g0 := hcell 0 (by rw [HLEN.out]; omega)
      rw [Nat.add_zero] at g0
      have hyl : ((fD xs).take j).length ≤ 7 := by rw [List.length_take]; omega
      have HTK := hid (fD_take hlt)
      have HDB := hid (dN_bd7 HB.out (by omega) (show j ≤ 7 by omega))
      clear hc' hcell hm'
      go_wp2_with (at_builtin; refine wpList_appIG rfl _ _ _ rfl Try.underlying23 Try.infoInt w.heap.size _ ((fD xs).take j) (by rfl) (by rfl) HO.out (by omega) hbs ?_; intro v2 w2 hown2 hg2 hb2; have HO2 := hid hown2; have HG2 := hid hg2; clear hown2 hg2)
      have s2 : wr.heap.size + 1 ≤ w2.heap.size := by have := HG2.out.size; simpa using this
      have hr2 := (hr.alloc (.cells #[.int .i64 (el (dN xs j) 0)] 3) hB).grownG (by simp; omega) HA.out HG2.out
      have hb3 := hbel.trans hb2
      go_wp2_with fail
      refine (c_neighbors _ (dN xs j) (128 * 1000000000) _ (hr2.up (by omega)) (by omega) HDB.out (by rw [HLEN.out]; omega)).mono ?_
      rintro e w3 ⟨v3, rfl, r3, b3⟩
      have s3 := b3.size
      obtain ⟨a3, cap3, hv3⟩ : ∃ a cap, v3 = .slice a (dF (dN xs j)).length cap := ⟨_, _, r3.isI.choose_spec.choose_spec.1⟩
      have hl3 : (dF (dN xs j)).length = xs.length - (j + 1) := by rw [dF_len, HLEN.out]; omega
      rw [hl3] at hv3
      subst hv3
      have HO3 := hid (show OwnI w3 w.heap.size v2 ((fD xs).take (j + 1)) by rw [HTK.out]; exact ownsRow_of_block HO2.out fun k hk => b3.block k (HO2.out.lt k hk).2)
      have HA3 := hid (r3.apart (o := v2.ownBlock) (fun k hk => .inl (HO2.out.lt k hk).2))
      have b4 := hb3.trans (b3.mono (by omega))
      have hi3 := r3.isI
      clear hr2 r3 b3 hb3 hb2 hr hl3
      go_wp2
      go_roundw
      case rel => exact ⟨j + 1, _, a3, cap3, _, rfl, rfl, by omega, HO3, Nat.le_refl _, hi3, HA3, b4⟩
      case measure => simp; omega
    · obtain rfl : j = xs.length := by omega
      have ho := HO.out
      rw [List.take_of_length_le (by rw [HFL.out]; omega)] at ho
      go_wp2
      go_ret
      exact ⟨_, rfl, ho.rw HFR.out (Nat.le_refl _), hbel⟩
set_option maxHeartbeats 800000 in
theorem c_l2Diffs (v : Value) (xs : List Int) (w : World) (hv : IsI w w.heap.size v xs) (hl : xs.length ≤ 7) (hb : Bd 1000000000 xs) :
    Calls Try.prog 115 #[v] w (RetRow w (fD xs)) := by
  obtain ⟨av, capv, hva⟩ : ∃ a cap, v = .slice a xs.length cap := ⟨_, _, hv.choose_spec.choose_spec.1⟩
  subst hva
  have HB := hid hb
  have HFR := hid (show R64 (fD xs) from R64.of_el fun k hk => by
    rw [fD_len] at hk
    rw [fD_el hk]
    have h1 := dN_bd7 hb (by omega) (show k ≤ 7 by omega)
    have h2 := h1 0 (by rw [dN_len]; omega)
    omega)
  have HFL := hid (fD_len xs)
  have hown0 : OwnI (w.alloc (.cells #[] 3)) w.heap.size (.slice (some ⟨w.heap.size, 0, none⟩) 0 0) [] := OwnI.empty w (Nat.le_refl _) rfl
  have b0 : Below w.heap.size w (w.alloc (.cells #[] 3)) := RetRow.e1 _ _
  have hv1 := hv.below b0 (Nat.le_refl _)
  have HOW := hid hown0
  have hap := hv.apart
  clear hb hown0 hv
  go_enter Try.func115, Try.ntmps115
  go_wp2
  go_loopw [0, 3] (fun u rv wr => ∃ (j : Nat) (vr : Value) (au : Option Addr) (capu B : Nat), u = .slice au (xs.length - j) capu ∧ rv = vr ∧ j ≤ xs.length ∧ Hid (OwnI wr w.heap.size vr ((fD xs).take j)) ∧ B ≤ wr.heap.size ∧ IsI wr B (.slice au (xs.length - j) capu) (dN xs j) ∧ Hid (Apart (.slice au (xs.length - j) capu) vr.ownBlock) ∧ Below w.heap.size w wr) (fun u _ _ => match u with | .slice _ n _ => n | _ => 0)
  case atStart => exact ⟨0, _, av, capv, w.heap.size, rfl, rfl, Nat.zero_le _, HOW, by simp, hv1, hap, b0⟩
  case round =>
    clear hv1 b0 hap
    obtain ⟨j, vr, au, capu, B, rfl, rfl, hj, HO, hB, hr, HA, hbel⟩ := hrel
    have hbs := hbel.size
    have HLEN := hid (dN_len xs j)
    by_cases hlt : j < xs.length
    · have k1 : 0 < xs.length - j := by omega
      have k2 : (0 : Int) < ((xs.length - j : Nat) : Int) := by omega
      obtain ⟨a', cap', he, hm', -, hc'⟩ := id hr
      simp only [Value.slice.injEq] at he
      obtain ⟨rfl, -, rfl⟩ := he
      obtain ⟨b, off, rfl, hbB, hcell⟩ := hc' 0 (by rw [HLEN.out]; omega)
      have g0 := hcell 0 (by rw [HLEN.out]; omega)
      rw [Nat.add_zero] at g0
      have hyl : ((fD xs).take j).length ≤ 7 := by rw [List.length_take]; omega
      have HTK := hid (fD_take hlt)
      have HDB := hid (dN_bd7 HB.out (by omega) (show j ≤ 7 by omega))
      clear hc' hcell hm'
      go_wp2_with (at_builtin; refine wpList_appIG rfl _ _ _ rfl Try.underlying23 Try.infoInt w.heap.size _ ((fD xs).take j) (by rfl) (by rfl) HO.out (by omega) hbs ?_; intro v2 w2 hown2 hg2 hb2; have HO2 := hid hown2; have HG2 := hid hg2; clear hown2 hg2)
      have s2 : wr.heap.size + 1 ≤ w2.heap.size := by have := HG2.out.size; simpa using this
      have hr2 := (hr.alloc (.cells #[.int .i64 (el (dN xs j) 0)] 3) hB).grownG (by simp; omega) HA.out HG2.out
      have hb3 := hbel.trans hb2
      go_wp2_with fail
      refine (c_l2Next _ (dN xs j) (128 * 1000000000) _ (hr2.up (by omega)) (by omega) HDB.out (by rw [HLEN.out]; omega)).mono ?_
      rintro e w3 ⟨v3, rfl, r3, b3⟩
      have s3 := b3.size
      obtain ⟨a3, cap3, hv3⟩ : ∃ a cap, v3 = .slice a (dF (dN xs j)).length cap := ⟨_, _, r3.isI.choose_spec.choose_spec.1⟩
      have hl3 : (dF (dN xs j)).length = xs.length - (j + 1) := by rw [dF_len, HLEN.out]; omega
      rw [hl3] at hv3
      subst hv3
      have HO3 := hid (show OwnI w3 w.heap.size v2 ((fD xs).take (j + 1)) by rw [HTK.out]; exact ownsRow_of_block HO2.out fun k hk => b3.block k (HO2.out.lt k hk).2)
      have HA3 := hid (r3.apart (o := v2.ownBlock) (fun k hk => .inl (HO2.out.lt k hk).2))
      have b4 := hb3.trans (b3.mono (by omega))
      have hi3 := r3.isI
      clear hr2 r3 b3 hb3 hb2 hr hl3
      go_wp2
      go_roundw
      case rel => exact ⟨j + 1, _, a3, cap3, _, rfl, rfl, by omega, HO3, Nat.le_refl _, hi3, HA3, b4⟩
      case measure => simp; omega
    · obtain rfl : j = xs.length := by omega
      have ho := HO.out
      rw [List.take_of_length_le (by rw [HFL.out]; omega)] at ho
      go_wp2
      go_ret
      exact ⟨_, rfl, ho.rw HFR.out (Nat.le_refl _), hbel⟩

theorem c_iPolyValid (v : Value) (xs : List Int) (B : Nat) (w : World) (hv : IsI w B v xs) :
    Calls Try.prog 62 #[v] w fun e w' => e = .returned (.bool (PV xs)) ∧ w = w' := by
  have hv' := hv
  obtain ⟨a, cap, rfl, hm, hr, hc⟩ := hv
  unfold maxLen at hm
  clear hr hc
  have H1 : Hid (xs.length < 1 ∨ 7 < xs.length → PV xs = false) := fun h => PV_len (inB_no (by omega))
  have H2 : Hid (1 ≤ xs.length ∧ xs.length ≤ 7 → PV xs = alw 100000 xs) := fun h => PV_len' (inB_yes (by omega) (by omega))
  by_cases g1 : 1 ≤ xs.length
  · by_cases g2 : xs.length ≤ 7
    · go_enter Try.func62, Try.ntmps62
      go_wp2_with (go_at_call 83; refine (c_allWithin _ xs _ B _ (by omega) (by omega) hv').mono ?_; rintro e w' ⟨rfl, rfl⟩)
      go_ret
      exact ⟨retB (H2.out ⟨g1, g2⟩).symm, rfl⟩
    · go_enter Try.func62, Try.ntmps62
      go_wp2
      go_ret
      exact ⟨retB (H1.out (by omega)).symm, rfl⟩
  · go_enter Try.func62, Try.ntmps62
    go_wp2
    go_ret
    exact ⟨retB (H1.out (by omega)).symm, rfl⟩
theorem c_checkedY (v : Value) (xs : List Int) (B : Nat) (w : World) (hv : IsI w B v xs) (h : PV xs = true) :
    Calls Try.prog 103 #[v] w fun e w' => e = .returned (.tuple #[v, .bool true]) ∧ w = w' := by
  go_enter Try.func103, Try.ntmps103
  go_wp2_with fail
  refine (c_iPolyValid _ xs _ _ hv).mono ?_
  rw [h]
  rintro e wx ⟨rfl, rfl⟩
  go_wp2
  go_ret2
  exact ⟨rfl, rfl⟩
theorem c_checkedN (v : Value) (xs : List Int) (B : Nat) (w : World) (hv : IsI w B v xs) (h : PV xs = false) :
    Calls Try.prog 103 #[v] w fun e w' => e = .returned (.tuple #[.slice none 0 0, .bool false]) ∧ w = w' := by
  go_enter Try.func103, Try.ntmps103
  go_wp2_with fail
  refine (c_iPolyValid _ xs _ _ hv).mono ?_
  rw [h]
  rintro e wx ⟨rfl, rfl⟩
  go_wp2
  go_ret2
  exact ⟨rfl, rfl⟩
/-- How many entries a polynomial is reckoned from. -/
def ipN (xs : List Int) : Nat := (max (ldF xs) 0).toNat + 1
def ipOk (xs : List Int) : Bool := TB xs && (decide (ldF xs ≤ 6) && PV (fD (xs.take (ipN xs))))
def ipL (xs : List Int) : List Int := if ipOk xs then fD (xs.take (ipN xs)) else []
theorem ipL_yes {xs : List Int} (h : ipOk xs = true) : ipL xs = fD (xs.take (ipN xs)) := by simp [ipL, h]
theorem ipL_no {xs : List Int} (h : ipOk xs = false) : ipL xs = [] := by simp [ipL, h]
theorem ldG_cases (xs : List Int) : ∀ n i, ldG xs i n = 7 ∨ ∃ j : Nat, i ≤ j ∧ j < i + n ∧ ldG xs i n = (j : Int) - 1 ∧ az (dN xs j) = true ∧ ∀ k, i ≤ k → k < j → az (dN xs k) = false := by
  intro n
  induction n with
  | zero => intro i; exact .inl rfl
  | succ n ih =>
    intro i
    by_cases h : az (dN xs i) = true
    · exact .inr ⟨i, Nat.le_refl _, by omega, ldG_hit h, h, fun k h1 h2 => by omega⟩
    · have h' : az (dN xs i) = false := by simpa using h
      rw [ldG_miss h']
      rcases ih (i + 1) with h1 | ⟨j, h1, h2, h3, h4, h5⟩
      · exact .inl h1
      · exact .inr ⟨j, by omega, by omega, h3, h4, fun k a b => by by_cases e : k = i; subst e; exact h'; exact h5 k (by omega) b⟩
theorem ld_bd {xs : List Int} (h : TB xs = true) : -1 ≤ ldF xs ∧ ldF xs ≤ 7 ∧ (ldF xs ≤ 6 → ldF xs + 1 ≤ xs.length ∧ ipN xs ≤ xs.length ∧ ipN xs ≤ 7) := by
  have hl := (TB_iff.1 h).1
  rw [ldF_yes h]
  rcases ldG_cases xs 8 0 with h1 | ⟨j, h1, h2, h3, h4, h5⟩
  · omega
  · rw [h3]
    refine ⟨by omega, by omega, fun h6 => ?_⟩
    have hj : j ≤ xs.length := by
      by_cases e : j ≤ xs.length
      · exact e
      · have h7 := h5 xs.length (by omega) (by omega)
        have h8 : az (dN xs xs.length) = true := by
          rw [az_iff]; intro k hk; rw [dN_len] at hk; omega
        rw [h8] at h7; cases h7
    unfold ipN
    rw [ldF_yes h, h3]
    omega
set_option maxHeartbeats 800000 in
theorem c_iInterpolate (w : World) (v : Value) (xs : List Int) (hv : IsI w w.heap.size v xs) :
    Calls Try.prog 86 #[v] w (RetRowB w (ipL xs) (ipOk xs)) := by
  obtain ⟨av, capv, hva⟩ : ∃ a cap, v = .slice a xs.length cap := ⟨_, _, hv.choose_spec.choose_spec.1⟩
  subst hva
  have HY := hid (fun h => @ipL_yes xs h)
  have HNO := hid (fun h => @ipL_no xs h)
  have HOK : Hid (ipOk xs = (TB xs && (decide (ldF xs ≤ 6) && PV (fD (xs.take (ipN xs)))))) := rfl
  by_cases hT : TB xs = true
  · obtain ⟨l0, l1, l2⟩ := ld_bd hT
    have h60 := (TB_iff.1 hT).2.1
    have h01 := (TB_iff.1 hT).1
    have HT := hid hT
    have HTB := hid (TB_Bd hT)
    have HN : Hid (ipN xs = (max (ldF xs) 0).toNat + 1) := rfl
    rw [hT, Bool.true_and] at HOK
    have L2 := hid l2
    clear hT l2
    generalize hK : ldF xs = K at *
    have HK := hid hK
    clear hK
    by_cases h6 : K ≤ 6
    · obtain ⟨m0, m1, m2⟩ := L2.out h6
      have HD : Hid (decide (K ≤ 6) = true) := by show _ = _; simpa using h6
      obtain ⟨n, hn⟩ : ∃ n, ipN xs = n := ⟨_, rfl⟩
      rw [hn] at HOK HY m1 m2 HN
      have hcap : xs.length ≤ capv := by
        obtain ⟨aa, cc, he, hx, -⟩ := hv
        simp only [Value.slice.injEq] at he; omega
      have hcm : capv ≤ maxLen := by
        obtain ⟨aa, cc, he, hx, -⟩ := hv
        simp only [Value.slice.injEq] at he; omega
      unfold maxLen at hcm
      have htk := hv.take m1
      have htl : (xs.take n).length = n := by rw [List.length_take]; omega
      have HTL := hid htl
      have HTBn := hid (show Bd 1000000000 (xs.take n) from fun k hk => by
        rw [htl] at hk; rw [el_take hk]; exact HTB.out k (by omega))
      clear hn htl
      have q4 : ¬ K = -2 := by omega
      have q5 : (K == -2) = false := by simpa using q4
      have q7 : ¬ 6 < K := by omega
      rcases Int.lt_or_le K 0 with hk | hk
      · obtain rfl : n = 1 := by have := HN.out; omega
        have q6 : (1 : Int) ≤ capv := by omega
        by_cases hP : PV (fD (xs.take 1)) = true
        · have HR := hid (show ipOk xs = true by rw [HOK.out, HD.out, hP]; rfl)
          have HV := hid (HY.out HR.out)
          have HP := hid hP
          rw [HV.out, HR.out]
          clear hP
          go_enter Try.func86, Try.ntmps86
          go_wp2_with fail
          refine (c_iLeastDegree _ _ xs hv).mono ?_
          rw [HK.out]
          rintro e w1 ⟨rfl, b1⟩
          have s1 := b1.size
          go_wp2_with fail
          refine (c_firstDifferences _ (xs.take 1) _ ((htk.below b1 (Nat.le_refl _)).up s1) (by rw [HTL.out]; exact m2) HTBn.out).mono ?_
          rintro e w2 ⟨v2, rfl, r2, b2⟩
          go_wp2_with fail
          refine (c_checkedY _ _ _ _ r2.isI HP.out).mono ?_
          rintro e wx ⟨rfl, rfl⟩
          go_wp2
          go_ret2
          exact ⟨_, rfl, r2.down s1, b1.trans (b2.mono s1)⟩
        · have hP' : PV (fD (xs.take 1)) = false := by simpa using hP
          have HR := hid (show ipOk xs = false by rw [HOK.out, HD.out, hP']; rfl)
          have HV := hid (HNO.out HR.out)
          have HP := hid hP'
          rw [HV.out, HR.out]
          clear hP hP'
          go_enter Try.func86, Try.ntmps86
          go_wp2_with fail
          refine (c_iLeastDegree _ _ xs hv).mono ?_
          rw [HK.out]
          rintro e w1 ⟨rfl, b1⟩
          have s1 := b1.size
          go_wp2_with fail
          refine (c_firstDifferences _ (xs.take 1) _ ((htk.below b1 (Nat.le_refl _)).up s1) (by rw [HTL.out]; exact m2) HTBn.out).mono ?_
          rintro e w2 ⟨v2, rfl, r2, b2⟩
          go_wp2_with fail
          refine (c_checkedN _ _ _ _ r2.isI HP.out).mono ?_
          rintro e wx ⟨rfl, rfl⟩
          go_wp2
          go_ret2
          exact ⟨_, rfl, Rw.nil _ _ _, b1.trans (b2.mono s1)⟩
      · have hn2 : (K + 1).toNat = n := by have := HN.out; omega
        have q6 : K + 1 ≤ capv := by omega
        have q8 : 0 ≤ K + 1 := by omega
        by_cases hP : PV (fD (xs.take n)) = true
        · have HR := hid (show ipOk xs = true by rw [HOK.out, HD.out, hP]; rfl)
          have HV := hid (HY.out HR.out)
          have HP := hid hP
          rw [HV.out, HR.out]
          clear hP
          go_enter Try.func86, Try.ntmps86
          go_wp2_with fail
          refine (c_iLeastDegree _ _ xs hv).mono ?_
          rw [HK.out]
          rintro e w1 ⟨rfl, b1⟩
          have s1 := b1.size
          go_wp2_with fail
          refine (c_firstDifferences _ (xs.take n) _ ((htk.below b1 (Nat.le_refl _)).up s1) (by rw [HTL.out]; exact m2) HTBn.out).mono ?_
          rintro e w2 ⟨v2, rfl, r2, b2⟩
          go_wp2_with fail
          refine (c_checkedY _ _ _ _ r2.isI HP.out).mono ?_
          rintro e wx ⟨rfl, rfl⟩
          go_wp2
          go_ret2
          exact ⟨_, rfl, r2.down s1, b1.trans (b2.mono s1)⟩
        · have hP' : PV (fD (xs.take n)) = false := by simpa using hP
          have HR := hid (show ipOk xs = false by rw [HOK.out, HD.out, hP']; rfl)
          have HV := hid (HNO.out HR.out)
          have HP := hid hP'
          rw [HV.out, HR.out]
          clear hP hP'
          go_enter Try.func86, Try.ntmps86
          go_wp2_with fail
          refine (c_iLeastDegree _ _ xs hv).mono ?_
          rw [HK.out]
          rintro e w1 ⟨rfl, b1⟩
          have s1 := b1.size
          go_wp2_with fail
          refine (c_firstDifferences _ (xs.take n) _ ((htk.below b1 (Nat.le_refl _)).up s1) (by rw [HTL.out]; exact m2) HTBn.out).mono ?_
          rintro e w2 ⟨v2, rfl, r2, b2⟩
          go_wp2_with fail
          refine (c_checkedN _ _ _ _ r2.isI HP.out).mono ?_
          rintro e wx ⟨rfl, rfl⟩
          go_wp2
          go_ret2
          exact ⟨_, rfl, Rw.nil _ _ _, b1.trans (b2.mono s1)⟩
    · have HD : Hid (decide (K ≤ 6) = false) := by show _ = _; simpa using h6
      have HR := hid (show ipOk xs = false by rw [HOK.out, HD.out]; rfl)
      have HV := hid (HNO.out HR.out)
      rw [HV.out, HR.out]
      have q5 : (K == -2) = false := by simp; omega
      go_enter Try.func86, Try.ntmps86
      go_wp2_with fail
      refine (c_iLeastDegree _ _ xs hv).mono ?_
      rw [HK.out]
      rintro e w1 ⟨rfl, b1⟩
      go_wp2
      go_ret2
      exact ⟨_, rfl, Rw.nil _ _ _, b1⟩
  · have hT' : TB xs = false := by simpa using hT
    have HK := hid (ldF_no hT')
    have HR := hid (show ipOk xs = false by rw [HOK.out, hT']; rfl)
    have HV := hid (HNO.out HR.out)
    rw [HV.out, HR.out]
    clear hT
    go_enter Try.func86, Try.ntmps86
    go_wp2_with fail
    refine (c_iLeastDegree _ _ xs hv).mono ?_
    rw [HK.out]
    rintro e w1 ⟨rfl, b1⟩
    go_wp2
    go_ret2
    exact ⟨_, rfl, Rw.nil _ _ _, b1⟩
end Go.Proofs.Ytkiebajggombiaa
