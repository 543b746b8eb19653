/- What is proved here: contracts of ValuesOf, segmentValid, l5Length and PlanValid (spec and impl). -/
import Derived.Test.YtkiebajggombiaaPln
import Derived.Test.YtkiebajggombiaaIpl
import Derived.Test.YtkiebajggombiaaSegS
import Derived.Deep.RegionHeld3
set_option linter.unusedVariables false
set_option linter.unusedSimpArgs false
namespace Go.Proofs.Ytkiebajggombiaa
open Go.RowKit

theorem c_valueAt (v : Value) (p : List Int) (n : Int) (B : Nat) (w : World) (hv : IsI w B v p) (hp : Bd 100000 p) (hn : -300 ≤ n ∧ n ≤ 300) (hl : p.length ≤ 7) :
    Calls Try.prog 95 #[v, .int .i64 n] w fun e w' => e = .returned (.int .i64 (evF p n)) ∧ w = w' := by
  obtain ⟨a, cap, rfl, hm, hr, hc⟩ := hv
  unfold maxLen at hm
  have HB := hid (ev_bd hp hn hl)
  have HP := hid hp
  have HN := hid hn
  clear hr hp hn
  go_enter Try.func95, Try.ntmps95
  go_wp2
  go_loop [5, 10] (fun s i => ∃ j : Nat, j ≤ p.length ∧ i = .int .i64 j ∧ s = .int .i64 (evT p n j)) (fun _ i => p.length - (intOf i).toNat)
  case atStart => exact ⟨0, Nat.zero_le _, rfl, rfl⟩
  case round =>
    obtain ⟨j, hj, rfl, rfl⟩ := hrel
    by_cases hlt : j < p.length
    · obtain ⟨b, off, rfl, hb, hcell⟩ := hc j hlt
      have hce := hcell j hlt
      obtain ⟨h1, h2⟩ := HP.out j hlt
      obtain ⟨h3, h4⟩ := ch_bd6 (n := n) (k := j) HN.out (by omega)
      obtain ⟨h5, h6⟩ := mul_bd (a := el p j) (b := chF n j) (A := 100000) (B := 1064089721800) (by omega) h1 h2 h3 h4
      obtain ⟨h7, h8⟩ := HB.out j hj
      have HE : Hid (evT p n (j + 1) = evT p n j + el p j * chF n j) := rfl
      have hj7 : j ≤ 7 := by omega
      clear hc hcell h1 h2 h3 h4
      go_wp2_with fail
      refine (c_choose _ _ _ HN.out hj7).mono ?_
      rintro e wx ⟨rfl, rfl⟩
      go_wp2
      go_round
      case rel => exact ⟨j + 1, by omega, by go_num, by rw [HE.out]⟩
      case measure => simp [intOf]; omega
    · obtain rfl : j = p.length := by omega
      clear hc
      go_wp2
      go_ret
      exact ⟨rfl, rfl⟩
/-- Whether a polynomial has values from a place on, and these. -/
def voOk (p : List Int) (a n : Int) : Bool := PV p && (inB a (-200) 200 && (inB n 0 60 && decide (a + n - 1 ≤ 200)))
theorem c_ValuesOfY (v : Value) (p : List Int) (a : Int) (n : Nat) (w : World) (hv : IsI w w.heap.size v p) (hP : PV p = true) (ha : -200 ≤ a ∧ a ≤ 200) (hn : n ≤ 60) (han : a + n - 1 ≤ 200) :
    Calls Try.prog 106 #[v, .int .i64 a, .int .i64 n] w (RetRowB w (valF p a 1 n) true) := by
  obtain ⟨hpl0, hpl1, hpb⟩ := PV_iff.1 hP
  have HPB := hid (PV_Bd hP)
  have HBD := hid (valF_bd (p := p) (a := a) (s := 1) (n := n) (PV_Bd hP) hpl1 (fun j hj => by omega))
  have HL := hid (valF_len p a 1 n)
  have hin : inB a (-200) 200 = true := inB_yes ha.1 ha.2
  obtain ⟨av, capv, hva⟩ : ∃ a cap, v = .slice a p.length cap := ⟨_, _, hv.choose_spec.choose_spec.1⟩
  subst hva
  have hmk := mk_ints Try.underlying23 Try.infoInt n (by omega)
  have HM := made_zero n
  generalize madeCells #[Value.int .i64 0] n = mc at *
  have HM' : Hid (mc = ((List.replicate n (0 : Int)).map (Value.int .i64)).toArray) := HM
  have hB0 := (Blk.new (w := w) HM'.out)
  have b0 : Below w.heap.size w (w.alloc (.cells mc 3)) := RetRow.e1 _ _
  have HB0 := hid hB0
  clear HM hpb hB0
  go_enter Try.func106, Try.ntmps106
  go_wp2_with fail
  refine (c_iPolyValid _ p _ _ hv).mono ?_
  rw [hP]
  rintro e wx ⟨rfl, rfl⟩
  go_wp2_with fail
  refine (c_within _ _ _ (by omega) (by omega)).mono ?_
  rw [hin]
  rintro e wx ⟨rfl, rfl⟩
  clear hin
  go_wp2
  go_loopw [35] (fun i wr => ∃ (j : Nat) (ys : List Int), j ≤ n ∧ i = .int .i64 j ∧ Blk wr w.heap.size ys ∧ Hid (ys.length = n) ∧ Hid (ys.take j = (valF p a 1 n).take j) ∧ Below w.heap.size w wr) (fun i _ => n - (intOf i).toNat)
  case atStart => exact ⟨0, List.replicate n 0, Nat.zero_le _, rfl, HB0.out, by show _ = _; simp, by show _ = _; simp, b0⟩
  case round =>
    clear b0
    obtain ⟨j, ys, hj, rfl, HB, HLN, HT, hbel⟩ := hrel
    clear hmk
    by_cases hlt : j < n
    · have hd := HB.cell j (by rw [HLN.out]; exact hlt)
      have hf := HB.free j
      have hvr := hv.below hbel (Nat.le_refl _)
      have hev := ev_bd7 HPB.out (n := a + j) ⟨by omega, by omega⟩ hpl1
      have HE := hid (valF_el (p := p) (a := a) (s := 1) hlt)
      go_wp2_with fail
      refine (c_valueAt _ p _ _ _ hvr HPB.out ⟨by omega, by omega⟩ hpl1).mono ?_
      rintro e wx ⟨rfl, rfl⟩
      clear hvr
      go_wp2
      go_roundw
      case rel => exact ⟨j + 1, ys.set j (evF p (a + j)), by omega, by go_num, HB.set _ _, by show _ = _; simpa using HLN.out, take_set (by rw [HL.out]; exact hlt) (by rw [HL.out, HLN.out]) (by rw [HE.out, Int.one_mul]) HT.out, hbel.setCell (Nat.le_refl _) _⟩
      case measure => simp [intOf]; omega
    · obtain rfl : j = n := by omega
      go_wp2
      go_ret2
      have e1 := HT.out
      rw [List.take_of_length_le (by rw [HLN.out]; omega), List.take_of_length_le (by rw [HL.out]; omega)] at e1
      subst e1
      have hlt' := HB.lt
      refine ⟨_, rfl, ?_, hbel⟩
      have := HB.rw (Nat.le_refl _) hlt' (by rw [HL.out]; unfold maxLen; omega) (HBD.out.r64 (by omega))
      rwa [HL.out] at this
theorem c_ValuesOfN (v : Value) (p : List Int) (a n : Int) (w : World) (hv : IsI w w.heap.size v p) (hP : PV p = false) :
    Calls Try.prog 106 #[v, .int .i64 a, .int .i64 n] w (RetRowB w [] false) := by
  obtain ⟨av, capv, hva⟩ : ∃ a cap, v = .slice a p.length cap := ⟨_, _, hv.choose_spec.choose_spec.1⟩
  subst hva
  go_enter Try.func106, Try.ntmps106
  go_wp2_with fail
  refine (c_iPolyValid _ p _ _ hv).mono ?_
  rw [hP]
  rintro e wx ⟨rfl, rfl⟩
  go_wp2
  go_ret2
  exact ⟨_, rfl, Rw.nil _ _ _, Below.refl _ _⟩
theorem c_segmentValid (c : Int) (v : Value) (p : List Int) (w : World) (hv : IsI w w.heap.size v p) :
    Calls Try.prog 88 #[.agg #[.int .i64 c, v]] w fun e w' => e = .returned (.bool (sgB c p)) ∧ Below w.heap.size w w' := by
  obtain ⟨av, cv, hav⟩ : ∃ a cap, v = .slice a p.length cap := ⟨_, _, hv.choose_spec.choose_spec.1⟩
  subst hav
  obtain ⟨e0, e1, -⟩ := seg_cells (seg_alloc_cells w (.int .i64 c) (.slice av p.length cv) 36) (.int .i64 0)
  have hv1 := (hv.alloc (.cells #[.int .i64 c, .slice av p.length cv] 36) (Nat.le_refl _)).up (show w.heap.size ≤ (w.alloc (.cells #[.int .i64 c, .slice av p.length cv] 36)).heap.size by simp)
  have b1 := RetRow.e1 w (.cells #[.int .i64 c, .slice av p.length cv] 36)
  have hsz : (w.alloc (.cells #[.int .i64 c, .slice av p.length cv] 36)).heap.size = w.heap.size + 1 := by simp
  have HD : Hid (sgB c p = (inB c 1 60 && (PV p && TB (valF p 0 1 c.toNat)))) := rfl
  clear hv
  by_cases h1 : c < 1
  · have HR := hid (show sgB c p = false by rw [HD.out, inB_no (by omega)]; rfl)
    rw [HR.out]
    go_enter Try.func88, Try.ntmps88
    go_wp2
    go_ret
    exact ⟨rfl, b1⟩
  · by_cases h2 : 60 < c
    · have HR := hid (show sgB c p = false by rw [HD.out, inB_no (by omega)]; rfl)
      rw [HR.out]
      go_enter Try.func88, Try.ntmps88
      go_wp2
      go_ret
      exact ⟨rfl, b1⟩
    · obtain ⟨n, rfl⟩ : ∃ n : Nat, c = n := ⟨c.toNat, by omega⟩
      have q1 : ¬ n = 0 := by omega
      have q2 : ¬ 60 < n := by omega
      by_cases hP : PV p = true
      · have HR := hid (show sgB (n : Int) p = TB (valF p 0 1 n) by rw [HD.out, inB_yes (by omega) (by omega), hP]; rfl)
        rw [HR.out]
        go_enter Try.func88, Try.ntmps88
        go_wp2_with fail
        refine (c_ValuesOfY _ p 0 n _ hv1 hP (by omega) (by omega) (by omega)).mono ?_
        rintro e w2 ⟨v2, rfl, r2, b2⟩
        go_wp2_with fail
        refine (c_iTableValid _ _ _ _ r2.isI).mono ?_
        rintro e wx ⟨rfl, rfl⟩
        go_wp2
        go_ret
        exact ⟨rfl, b1.trans (b2.mono (by omega))⟩
      · have hP' : PV p = false := by simpa using hP
        have HR := hid (show sgB (n : Int) p = false by rw [HD.out, hP', Bool.false_and, Bool.and_false])
        rw [HR.out]
        clear hP
        go_enter Try.func88, Try.ntmps88
        go_wp2_with fail
        refine (c_ValuesOfN _ p 0 n _ hv1 hP').mono ?_
        rintro e w2 ⟨v2, rfl, r2, b2⟩
        go_wp2
        go_ret
        exact ⟨rfl, b1.trans (b2.mono (by omega))⟩
theorem c_iPlanValid (v : Value) (L : List (Int × List Int)) (w : World) (hv : IsS w w.heap.size v L) :
    Calls Try.prog 51 #[v] w fun e w' => e = .returned (.bool (PLV L)) ∧ Below w.heap.size w w' := by
  obtain ⟨a, cap, rfl, hm, hc⟩ := hv
  unfold maxLen at hm
  obtain ⟨n, hn⟩ : ∃ n, L.length = n := ⟨_, rfl⟩
  have HN := hid hn
  rw [hn] at hm hc ⊢
  clear hn
  go_enter Try.func51, Try.ntmps51
  go_wp2
  go_loopw [3, 8] (fun t i wr => ∃ (j : Nat) (y : Int), j ≤ n ∧ i = .int .i64 j ∧ t = .int .i64 y ∧ Hid (y = pS L j) ∧ (0 ≤ y ∧ y ≤ 60) ∧ Hid (∀ i, i < j → sgB (pC L i) (pP L i) = true) ∧ Below w.heap.size w wr) (fun _ i _ => n - (intOf i).toNat)
  case atStart => exact ⟨0, 0, Nat.zero_le _, rfl, rfl, rfl, by omega, fun i hi => by omega, Below.refl _ _⟩
  case round =>
    obtain ⟨j, y, hj, rfl, rfl, HY, ⟨y0, y1⟩, HA, hbel⟩ := hrel
    have hbs := hbel.size
    by_cases hlt : j < n
    · obtain ⟨b, off, u, rfl, hb, g0, g1, hu, -⟩ := hc j hlt
      replace g0 := (hbel.cell (p := ⟨b, off + j * 2, none⟩) hb).trans g0
      replace g1 := (hbel.cell (p := ⟨b, off + j * 2 + 1, none⟩) hb).trans g1
      replace hu := (hu.below hbel (Nat.le_refl _)).up hbs
      obtain ⟨au, cu, hau⟩ : ∃ a cap, u = .slice a (pP L j).length cap := ⟨_, _, hu.choose_spec.choose_spec.1⟩
      subst hau
      have hu1 := (hu.alloc (.cells #[.int .i64 (pC L j), .slice au (pP L j).length cu] 36) (Nat.le_refl _)).up (show wr.heap.size ≤ (wr.alloc (.cells #[.int .i64 (pC L j), .slice au (pP L j).length cu] 36)).heap.size by simp)
      have hsz : (wr.alloc (.cells #[.int .i64 (pC L j), .slice au (pP L j).length cu] 36)).heap.size = wr.heap.size + 1 := by simp
      have hG := seg_alloc_cells wr (.int .i64 (pC L j)) (.slice au (pP L j).length cu) 36
      have HG := hid hG
      have b1 := hbel.trans ((RetRow.e1 wr (.cells #[.int .i64 (pC L j), .slice au (pP L j).length cu] 36)).mono hbs)
      have HSU := hid (show pS L (j + 1) = pS L j + pC L j from rfl)
      clear hc hu hG hbel
      by_cases hs : sgB (pC L j) (pP L j) = true
      · obtain ⟨⟨s1, s2⟩, -⟩ := sgB_yes hs
        have HS := hid hs
        have HSG := hid hs
        clear hs
        go_wp2_with fail
        refine (c_segmentValid _ _ (pP L j) _ hu1).mono ?_
        rw [HS.out]
        rintro e w2 ⟨rfl, b2⟩
        obtain ⟨e0, e1, -⟩ := seg_cells ((b2.block wr.heap.size (by omega)).trans HG.out) (.int .i64 0)
        have b3 := b1.trans (b2.mono (by omega))
        clear g0 g1 hu1 b1 b2
        by_cases ht : 60 < y + pC L j
        · have HR := hid (PLV_sum (L := L) (k := j + 1) (by rw [HN.out]; omega) (by rw [HSU.out, ← HY.out]; exact ht))
          go_wp2
          go_ret
          exact ⟨retB HR.out.symm, b3⟩
        · go_wp2
          go_roundw
          case rel => exact ⟨j + 1, _, by omega, by go_num, rfl, by show _ = _; rw [HSU.out, HY.out], by omega, fun i hi => if e : i = j then e ▸ HSG.out else HA.out i (by omega), b3⟩
          case measure => simp [intOf]; omega
      · have hs' : sgB (pC L j) (pP L j) = false := by simpa using hs
        have HR := hid (PLV_no (L := L) (i := j) (by rw [HN.out]; exact hlt) hs')
        have HS := hid hs'
        clear hs hs'
        go_wp2_with fail
        refine (c_segmentValid _ _ (pP L j) _ hu1).mono ?_
        rw [HS.out]
        rintro e w2 ⟨rfl, b2⟩
        go_wp2
        go_ret
        exact ⟨retB HR.out.symm, b1.trans (b2.mono (by omega))⟩
    · obtain rfl : j = n := by omega
      clear hc
      by_cases h0 : j = 0
      · subst h0
        have HR := hid (PLV_nil HN.out)
        go_wp2
        go_ret
        exact ⟨retB HR.out.symm, hbel⟩
      · have HR := hid (show PLV L = true from PLV_iff.2 ⟨by rw [HN.out]; omega, by rw [HN.out]; exact HA.out, by rw [HN.out, ← HY.out]; exact y1⟩)
        have h1 : (1 : Int) ≤ j := by omega
        have h2 : 1 ≤ j := by omega
        go_wp2
        go_ret
        exact ⟨retB HR.out.symm, hbel⟩
theorem c_l5Length (v : Value) (L : List (Int × List Int)) (B : Nat) (w : World) (hl : L.length ≤ 1048576) (hv : IsS w B v L) :
    Calls Try.prog 89 #[v] w fun e w' => e = .returned (.int .i64 (lnF L)) ∧ w = w' := by
  obtain ⟨a, cap, rfl, hm, hc⟩ := hv
  unfold maxLen at hm
  obtain ⟨n, hn⟩ : ∃ n, L.length = n := ⟨_, rfl⟩
  have HN := hid hn
  rw [hn] at hm hc hl ⊢
  clear hn
  go_enter Try.func89, Try.ntmps89
  go_wp2
  go_loop [3, 4] (fun t i => ∃ (j : Nat) (y : Int), j ≤ n ∧ i = .int .i64 j ∧ t = .int .i64 y ∧ Hid (y = pS L j) ∧ (0 ≤ y ∧ y ≤ 60 * (j : Int)) ∧ Hid (∀ i, i < j → inB (pC L i) 1 60 = true)) (fun _ i => n - (intOf i).toNat)
  case atStart => exact ⟨0, 0, Nat.zero_le _, rfl, rfl, rfl, by omega, fun i hi => by omega⟩
  case round =>
    obtain ⟨j, y, hj, rfl, rfl, HY, ⟨y0, y1⟩, HA⟩ := hrel
    by_cases hlt : j < n
    · obtain ⟨b, off, u, rfl, hb, g0, g1, hu, -⟩ := hc j hlt
      have HSU := hid (show pS L (j + 1) = pS L j + pC L j from rfl)
      clear hc hu g1
      by_cases hs : inB (pC L j) 1 60 = true
      · obtain ⟨s1, s2⟩ := inB_iff.1 hs
        have HS := hid hs
        clear hs
        go_wp2_with fail
        refine (c_l1In _ _ _ _).mono ?_
        rw [HS.out]
        rintro e wx ⟨rfl, rfl⟩
        go_wp2
        go_round
        case rel => exact ⟨j + 1, _, by omega, by go_num, rfl, by show _ = _; rw [HSU.out, HY.out], by omega, fun i hi => if e : i = j then e ▸ HS.out else HA.out i (by omega)⟩
        case measure => simp [intOf]; omega
      · have hs' : inB (pC L j) 1 60 = false := by simpa using hs
        have HR := hid (lnF_no (L := L) (i := j) (by rw [HN.out]; exact hlt) hs')
        have HS := hid hs'
        clear hs hs'
        go_wp2_with fail
        refine (c_l1In _ _ _ _).mono ?_
        rw [HS.out]
        rintro e wx ⟨rfl, rfl⟩
        go_wp2
        go_ret
        exact ⟨retI HR.out.symm, rfl⟩
    · obtain rfl : j = n := by omega
      have HR := hid (show y = lnF L by rw [lnF_yes (by rw [HN.out]; exact HA.out), HN.out]; exact HY.out)
      clear hc
      go_wp2
      go_ret
      exact ⟨retI HR.out, rfl⟩
theorem c_sPolyValidN (v : Value) (xs : List Int) (B : Nat) (w : World) (h : PV xs = false) (hv : IsI w B v xs) :
    Calls Try.prog 90 #[v] w fun e w' => e = .returned (.bool false) ∧ w = w' := by
  have := c_sPolyValid v xs B w hv
  rwa [h] at this
theorem plv_cells {w w' : World} {b o : Nat} {v0 v1 : Value} (hb : Below w.drew.heap.size w.drew w') (h0 : w.cell? ⟨b, o, none⟩ = some v0) (h1 : w.cell? ⟨b, o + 1, none⟩ = some v1) :
    w'.cell? ⟨b, o, none⟩ = some v0 ∧ w'.cell? ⟨b, o + 1, none⟩ = some v1 := by
  have f : ∀ {b o : Nat} {v : Value}, w.cell? ⟨b, o, none⟩ = some v → w'.cell? ⟨b, o, none⟩ = some v := fun h => (hb.cell (p := ⟨_, _, none⟩) (World.block_lt_of_cell? _ _ h)).trans h
  exact ⟨f h0, f h1⟩
theorem c_sPlanValid (v : Value) (L : List (Int × List Int)) (w : World) (hl : L.length ≤ 1048576) (hv : IsS w w.heap.size v L) :
    Calls Try.prog 53 #[v] w fun e w' => e = .returned (.bool (PLV L)) ∧ Below w.heap.size w w' := by
  have hv0 := hv
  obtain ⟨a, cap, rfl, hm, hc⟩ := hv
  unfold maxLen at hm
  by_cases h60 : 60 < L.length
  · have HR := hid (PLV_long h60)
    have q : (60 : Int) < L.length := by omega
    rw [HR.out]
    clear hc hv0
    go_enter Try.func53, Try.ntmps53
    go_wp2
    go_ret
    exact ⟨rfl, Below.refl _ _⟩
  · have q : ¬ (60 : Int) < L.length := by omega
    by_cases hln : inB (lnF L) 1 60 = true
    · have HLN := hid hln
      have HLF := hid (ln_facts hln)
      have HALL := hid (fun h => PLV_all (L := L) hln h)
      obtain ⟨n, hn⟩ : ∃ n, L.length = n := ⟨_, rfl⟩
      have HN := hid hn
      have hsl := hid hl
      rw [hn] at hm hc hl hv0 q h60 HALL HLF ⊢
      clear hn hln
      go_enter Try.func53, Try.ntmps53
      go_wp2_with fail
      refine (c_l5Length _ L _ _ hsl.out hv0).mono ?_
      rintro e wx ⟨rfl, rfl⟩
      go_wp2_with fail
      refine (c_l1In _ _ _ _).mono ?_
      rw [HLN.out]
      rintro e wx ⟨rfl, rfl⟩
      clear hv0
      go_wp2
      go_loopw [3] (fun i wr => ∃ (j : Nat), j ≤ n ∧ i = .int .i64 j ∧ Hid (∀ i, i < j → sgB (pC L i) (pP L i) = true) ∧ Below w.heap.size w wr) (fun i _ => n - (intOf i).toNat)
      case atStart => exact ⟨0, Nat.zero_le _, rfl, fun i hi => by omega, Below.refl _ _⟩
      case round =>
        obtain ⟨j, hj, rfl, HA, hbel⟩ := hrel
        have hbs := hbel.size
        by_cases hlt : j < n
        · obtain ⟨b, off, u, rfl, hb, g0, g1, hu, -⟩ := hc j hlt
          replace g0 := (hbel.cell (p := ⟨b, off + j * 2, none⟩) hb).trans g0
          replace g1 := (hbel.cell (p := ⟨b, off + j * 2 + 1, none⟩) hb).trans g1
          replace hu := (hu.below hbel (Nat.le_refl _)).up hbs
          obtain ⟨au, cu, hau⟩ : ∃ a cap, u = .slice a (pP L j).length cap := ⟨_, _, hu.choose_spec.choose_spec.1⟩
          subst hau
          obtain ⟨c0, c1⟩ := HLF.out.2.1 j hlt
          obtain ⟨cn, hcn⟩ : ∃ cn : Nat, pC L j = cn := ⟨(pC L j).toNat, by omega⟩
          have HD : Hid (sgB (pC L j) (pP L j) = (inB (pC L j) 1 60 && (PV (pP L j) && TB (valF (pP L j) 0 1 (pC L j).toNat)))) := rfl
          rw [hcn] at g0 c0 c1
          have HCN := hid hcn
          have q0 : 0 ≤ (j : Int) := by omega
          have q1 : (j : Int) < n := by omega
          clear hc hcn
          by_cases hP : PV (pP L j) = true
          · have HSG := hid (show sgB (pC L j) (pP L j) = TB (valF (pP L j) 0 1 cn) by rw [HD.out, hP, HCN.out, inB_yes (by omega) (by omega)]; rfl)
            have HPB := hid (PV_Bd hP)
            have hp7 := (PV_iff.1 hP).2.1
            have HP := hid hP
            clear hP
            go_wp2_with fail
            go_region_held3 (fun w' => w'.cell? ⟨b, off + j * 2, none⟩ = some (.int .i64 (cn : Int)) ∧ w'.cell? ⟨b, off + j * 2 + 1, none⟩ = some (.slice au (pP L j).length cu))
              (first | exact ⟨g0, g1⟩ | exact HK.out | go_keep)
              (first
                | (go_at_call 90; refine (c_sPolyValid _ (pP L j) wr.drew.heap.size wr.drew hu).mono ?_; rw [HP.out]; rintro e w8 ⟨rfl, rfl⟩)
                | (go_at_call 91; refine (c_l2Values _ (pP L j) 0 1 cn wr.drew hu HPB.out hp7 (by omega) (by omega) (by omega) (fun j hj => by omega)).mono ?_; rintro e w9 ⟨v9, rfl, r9, b9⟩; have HK := hid (plv_cells b9 g0 g1))
                | (go_at_call 73; refine (c_sTableValid _ _ _ _ r9.isI).mono ?_; rintro e w10 ⟨rfl, rfl⟩))
            have b10 := hbel.drew.trans (b9.mono (by show w.heap.size ≤ wr.heap.size; omega))
            clear HK b9
            by_cases hT : TB (valF (pP L j) 0 1 cn) = true
            · have HS := hid (HSG.out.trans hT)
              rw [hT]
              clear hT
              go_wp2
              go_roundw
              case rel => exact ⟨j + 1, by omega, by go_num, fun i hi => if e : i = j then e ▸ HS.out else HA.out i (by omega), b10⟩
              case measure => simp [intOf]; omega
            · have hT' : TB (valF (pP L j) 0 1 cn) = false := by simpa using hT
              have HR := hid (PLV_no (L := L) (i := j) (by rw [HN.out]; exact hlt) (HSG.out.trans hT'))
              rw [hT']
              clear hT hT'
              go_wp2
              go_ret
              exact ⟨retB HR.out.symm, b10⟩
          · have hP' : PV (pP L j) = false := by simpa using hP
            have HSG := hid (show sgB (pC L j) (pP L j) = false by rw [HD.out, hP', Bool.false_and, Bool.and_false])
            have HR := hid (PLV_no (L := L) (i := j) (by rw [HN.out]; exact hlt) HSG.out)
            have HP := hid hP'
            clear hP hP'
            go_wp2_with fail
            go_quiet ((go_at_call 90; exact cq (c_sPolyValidN _ (pP L j) wr.heap.size _ HP.out hu)))
            go_wp2
            go_ret
            exact ⟨retB HR.out.symm, bel_drewN hbel _⟩
        · obtain rfl : j = n := by omega
          have HR := hid (HALL.out HA.out)
          clear hc
          go_wp2
          go_ret
          exact ⟨retB HR.out.symm, hbel⟩
    · have hln' : inB (lnF L) 1 60 = false := by simpa using hln
      have HR := hid (PLV_ln hln')
      rw [HR.out]
      clear hc hln
      go_enter Try.func53, Try.ntmps53
      go_wp2_with fail
      refine (c_l5Length _ L _ _ hl hv0).mono ?_
      rintro e wx ⟨rfl, rfl⟩
      go_wp2_with fail
      refine (c_l1In _ _ _ _).mono ?_
      rw [hln']
      rintro e wx ⟨rfl, rfl⟩
      go_wp2
      go_ret
      exact ⟨rfl, Below.refl _ _⟩
end Go.Proofs.Ytkiebajggombiaa
