/- What is proved here: an erratum read off its text, by the program and by the reference. -/
import Derived.Test.YtlinkeemccnfmaaDoorPeM
set_option linter.unusedVariables false
set_option linter.unusedSimpArgs false
set_option maxRecDepth 100000
namespace Go.Proofs.YtlinkeemccnfmaaDoor
open Go.RowKit

theorem pe_not_dash {s : ByteArray} (h : s ≠ ⟨#[45]⟩) : (s.toList == [45]) = false := by
  rw [ByteArray.toList_eq]
  by_cases e : s.data.toList = [45]
  · exact absurd (by_data (by rw [e])) h
  · simpa using e
theorem bel_k {n0 k : Nat} {w0 W : World} {o : Obj} (h : W.heap[k]? = some o) {W' : World} (hb : Below W.heap.size W W') : W'.heap[k]? = some o :=
  (hb.block k (Array.getElem?_eq_some_iff.1 h).1).trans h
theorem Tryd.infoEr1 : (Tryd.prog.info? 40).map (·.size) = some 3 := by kernel_rfl
theorem bodyPost_err {fn : Func} {p u : Tmp} (h : fn.results = #[.cell p 40, .tmp u]) {a : Act} {w' : World} {g : Nat} {x y z ok : Value} {Q : Ending → World → Prop}
    (hd : a.defers = []) (hp : a.tmps.getD p undef = .pointer (some ⟨g, 0, none⟩)) (hu : a.tmps.getD u undef = ok) (hg : w'.heap[g]? = some (.cells #[x, y, z] 40 (0, 0)))
    (hq : Q (.returned (.tuple #[.agg #[x, y, z], ok])) w') : bodyPost Tryd.prog fn Q .ret a w' := by
  refine bodyPost_ret (v := .tuple #[.agg #[x, y, z], ok]) ?_ hd hq
  rw [results_cell_tmp h, hp, hu]
  simp [asAddr, Result.andThen, run_loadVar_row (P := Tryd.prog) w' g 40 40 #[x, y, z] (0, 0) _ hg Tryd.underlying40 rfl Tryd.infoEr1]
theorem err_cells {w : World} {g : Nat} {a b c : Value} {t : TypeId} (h : w.heap[g]? = some (.cells #[a, b, c] t (0, 0))) (x y : Value) :
    (w.cell? ⟨g, 0, none⟩ = some a ∧ w.cell? ⟨g, 1, none⟩ = some b ∧ w.cell? ⟨g, 2, none⟩ = some c) ∧ (w.frozen? ⟨g, 0, none⟩ = false ∧ w.frozen? ⟨g, 1, none⟩ = false ∧ w.frozen? ⟨g, 2, none⟩ = false) ∧
    ((w.setCell ⟨g, 0, none⟩ x).cell? ⟨g, 1, none⟩ = some b ∧ (w.setCell ⟨g, 0, none⟩ x).frozen? ⟨g, 1, none⟩ = false) ∧
    (((w.setCell ⟨g, 0, none⟩ x).setCell ⟨g, 1, none⟩ y).cell? ⟨g, 2, none⟩ = some c ∧ ((w.setCell ⟨g, 0, none⟩ x).setCell ⟨g, 1, none⟩ y).frozen? ⟨g, 2, none⟩ = false) :=
  ⟨⟨by rw [row_cell h]; rfl, by rw [row_cell h]; rfl, by rw [row_cell h]; rfl⟩, ⟨row_free h 0, row_free h 1, row_free h 2⟩, ⟨by rw [row_cell (row_set h 0 x)]; rfl, row_free (row_set h 0 x) 1⟩,
   ⟨by rw [row_cell (row_set (row_set h 0 x) 1 y)]; rfl, row_free (row_set (row_set h 0 x) 1 y) 2⟩⟩
theorem err_set {w : World} {g : Nat} {a b c : Value} {t : TypeId} (h : w.heap[g]? = some (.cells #[a, b, c] t (0, 0))) (x y z : Value) :
    (((w.setCell ⟨g, 0, none⟩ x).setCell ⟨g, 1, none⟩ y).setCell ⟨g, 2, none⟩ z).heap[g]? = some (.cells #[x, y, z] t (0, 0)) := by
  rw [row_set (row_set (row_set h 0 x) 1 y) 2 z]; rfl
theorem err_below {w w' : World} {g B : Nat} (h : Below B w w') (hg : B ≤ g) (x y z : Value) : Below B w (((w'.setCell ⟨g, 0, none⟩ x).setCell ⟨g, 1, none⟩ y).setCell ⟨g, 2, none⟩ z) :=
  ((h.setCell (p := ⟨g, 0, none⟩) hg x).setCell (p := ⟨g, 1, none⟩) hg y).setCell (p := ⟨g, 2, none⟩) hg z
/-- What a call leaves that reads an erratum. -/
def RetEr (w : World) (o : Option (Int × Int × Int)) (e : Ending) (w' : World) : Prop :=
  ∃ (x y z : Int) (b : Bool), e = .returned (.tuple #[.agg #[.int .i64 x, .int .i64 y, .int .i64 z], .bool b]) ∧ Below w.heap.size w w' ∧
   b = o.isSome ∧ ∀ t, o = some t → t = (x, y, z)
theorem opt_none {o : Option Int} (h : o.isSome = false) : o = none := by cases o <;> simp_all
theorem opt_some {o : Option Int} (h : o.isSome = true) : o = some (o.getD 0) := by cases o <;> simp_all
set_option maxHeartbeats 3200000 in
theorem c_parseErratum (s : ByteArray) (w : World) (B : Nat) (hs : s.size ≤ 16777216) (hB : B ≤ w.heap.size) (hL : LibV B w) :
    Calls Tryd.prog 28 #[.string s] w (RetEr w (pE s.data.toList)) := by
  have HL := hid hL
  obtain ⟨-, ⟨⟨m, hm⟩, hmB⟩, -, -⟩ := hL
  have g0 := heap_alloc_new w (.cells #[.int .i64 0, .int .i64 0, .int .i64 0] 40)
  have b0 := RetRow.e1 w (.cells #[.int .i64 0, .int .i64 0, .int .i64 0] 40)
  have hs0 : (w.alloc (.cells #[.int .i64 0, .int .i64 0, .int .i64 0] 40)).heap.size = w.heap.size + 1 := by simp
  obtain ⟨wA, hwA⟩ : ∃ x, w.alloc (.cells #[.int .i64 0, .int .i64 0, .int .i64 0] 40) = x := ⟨_, rfl⟩
  rw [hwA] at g0 b0 hs0
  have HG0 := hid g0
  have HB0 := hid b0
  have HM0 := hid ((b0.cell (p := ⟨1, 0, none⟩) (show 1 < w.heap.size by omega)).trans hm)
  have HP := hid (show pE s.data.toList = com3 (pN (Lib.cut s.data.toList [58]).1) (pN (Lib.cut (Lib.cut s.data.toList [58]).2.1 [62]).1) (pN (Lib.cut (Lib.cut s.data.toList [58]).2.1 [62]).2.1) from rfl)
  have hl1 : (Lib.cut s.data.toList [58]).1.length ≤ s.size ∧ (Lib.cut s.data.toList [58]).2.1.length ≤ s.size := by
    rw [Lib.cut]; have := dt_len s
    split
    · simp only [List.length_take, List.length_drop]; omega
    · simp only [List.length_nil]; omega
  obtain ⟨A, hA⟩ : ∃ A, (Lib.cut s.data.toList [58]).1 = A := ⟨_, rfl⟩
  obtain ⟨R, hR⟩ : ∃ R, (Lib.cut s.data.toList [58]).2.1 = R := ⟨_, rfl⟩
  obtain ⟨f1, hf1⟩ : ∃ f, (Lib.cut s.data.toList [58]).2.2 = f := ⟨_, rfl⟩
  have HC1 := hid (fun W (hmW : W.cell? ⟨1, 0, none⟩ = some (.int .i64 m)) => (show Calls Tryd.prog 44 #[.string s, .string ⟨#[58]⟩] W fun e w' => e = .returned (.tuple #[.string ⟨A.toArray⟩, .string ⟨R.toArray⟩, .bool f1]) ∧ ∃ n, w' = W.drewN n by
    rw [← hA, ← hR, ← hf1]; exact Tryd.strings_Cut s ⟨#[58]⟩ m W (by omega) hmW))
  rw [hA, hR] at hl1 HP
  have hl2 : (Lib.cut R [62]).1.length ≤ R.length ∧ (Lib.cut R [62]).2.1.length ≤ R.length := by
    rw [Lib.cut]
    split
    · simp only [List.length_take, List.length_drop]; omega
    · simp only [List.length_nil]; omega
  obtain ⟨C, hC⟩ : ∃ C, (Lib.cut R [62]).1 = C := ⟨_, rfl⟩
  obtain ⟨D, hD⟩ : ∃ D, (Lib.cut R [62]).2.1 = D := ⟨_, rfl⟩
  obtain ⟨f2, hf2⟩ : ∃ f, (Lib.cut R [62]).2.2 = f := ⟨_, rfl⟩
  have hRs : (⟨R.toArray⟩ : ByteArray).size = R.length := mk_size R
  have HC2 := hid (fun W (hmW : W.cell? ⟨1, 0, none⟩ = some (.int .i64 m)) => (show Calls Tryd.prog 44 #[.string ⟨R.toArray⟩, .string ⟨#[62]⟩] W fun e w' => e = .returned (.tuple #[.string ⟨C.toArray⟩, .string ⟨D.toArray⟩, .bool f2]) ∧ ∃ n, w' = W.drewN n by
    rw [← hC, ← hD, ← hf2]; exact Tryd.strings_Cut ⟨R.toArray⟩ ⟨#[62]⟩ m W (by omega) hmW))
  rw [hC, hD] at hl2 HP
  have HN1 := hid (fun W (hW : B ≤ W.heap.size) (hLW : LibV B W) => c_parseNumber ⟨A.toArray⟩ W B (by rw [mk_size]; omega) hW hLW)
  have HN2 := hid (fun W (hW : B ≤ W.heap.size) (hLW : LibV B W) => c_parseNumber ⟨C.toArray⟩ W B (by rw [mk_size]; omega) hW hLW)
  have HN3 := hid (fun W (hW : B ≤ W.heap.size) (hLW : LibV B W) => c_parseNumber ⟨D.toArray⟩ W B (by rw [mk_size]; omega) hW hLW)
  have hbB := b0.size
  clear hA hR hf1 hC hD hf2 g0 hRs hl1 hl2 hm
  go_enter Tryd.func28, Tryd.ntmps28
  go_wp2_with fail
  clear hwA
  refine (HC1.out _ HM0.out).mono ?_
  rintro e w1 ⟨rfl, n1, rfl⟩
  go_wp2_with fail
  refine (HC2.out (wA.drewN n1) HM0.out).mono ?_
  rintro e w2 ⟨rfl, n2, rfl⟩
  obtain ⟨w2, hw2⟩ : ∃ x, (wA.drewN n1).drewN n2 = x := ⟨_, rfl⟩
  have bD : Below wA.heap.size wA w2 := by rw [← hw2]; exact bel_drewN (bel_drewN (Below.refl _ _) _) _
  rw [hw2]
  have b2 := hid (HB0.out.trans (bD.mono HB0.out.size))
  have g2 := hid ((bD.block w.heap.size (by omega)).trans HG0.out)
  have hsz2 := bD.size
  have HL2 := hid (HL.out.to b2.out hB)
  clear hw2 bD
  go_wp2_with fail
  refine (HN1.out _ (by omega) HL2.out).mono ?_
  rintro e w3 ⟨rfl, c⟩
  have b3 := hid (b2.out.trans (c.mono b2.out.size))
  have g3 := hid ((c.block w.heap.size (by omega)).trans g2.out)
  have s3 := c.size
  have HL3 := hid (HL.out.to b3.out hB)
  clear c b2 g2
  go_wp2_with fail
  refine (HN2.out _ (by omega) HL3.out).mono ?_
  rintro e w4 ⟨rfl, c⟩
  have b4 := hid (b3.out.trans (c.mono b3.out.size))
  have g4 := hid ((c.block w.heap.size (by omega)).trans g3.out)
  have s4 := c.size
  have HL4 := hid (HL.out.to b4.out hB)
  clear c b3 g3
  go_wp2_with fail
  refine (HN3.out _ (by omega) HL4.out).mono ?_
  rintro e w5 ⟨rfl, c⟩
  have b5 := hid (b4.out.trans (c.mono b4.out.size))
  have g5 := hid ((c.block w.heap.size (by omega)).trans g4.out)
  clear c b4 g4
  obtain ⟨oa, hoa⟩ : ∃ o, pN A = o := ⟨_, rfl⟩
  obtain ⟨ob, hob⟩ : ∃ o, pN C = o := ⟨_, rfl⟩
  obtain ⟨oc, hoc⟩ : ∃ o, pN D = o := ⟨_, rfl⟩
  rw [hoa, hob, hoc] at HP
  rw [hoa, hob, hoc]
  clear hoa hob hoc HN1 HN2 HN3 HC1 HC2 HL2 HL3 HL4
  by_cases hall : (oa.isSome = true ∧ ob.isSome = true) ∧ oc.isSome = true
  · obtain ⟨⟨ha, hb⟩, hc⟩ := hall
    have HR := hid (show pE s.data.toList = some (oa.getD 0, ob.getD 0, oc.getD 0) by
      rw [HP.out, opt_some ha, opt_some hb, opt_some hc]; rfl)
    obtain ⟨x, hx⟩ : ∃ x, oa.getD 0 = x := ⟨_, rfl⟩
    obtain ⟨y, hy⟩ : ∃ x, ob.getD 0 = x := ⟨_, rfl⟩
    obtain ⟨z, hz⟩ : ∃ x, oc.getD 0 = x := ⟨_, rfl⟩
    rw [hx, hy, hz] at HR
    rw [hx, hy, hz, ha, hb, hc]
    obtain ⟨⟨q1, q2, q3⟩, ⟨q4, q5, q6⟩, ⟨q7, q8⟩, q9, q10⟩ := err_cells g5.out (.int .i64 x) (.int .i64 y)
    have HF := hid (err_set g5.out (.int .i64 x) (.int .i64 y) (.int .i64 z))
    clear hx hy hz ha hb hc
    go_wp2
    (try simp only [Exit.inBlock, Exit.then])
    refine bodyPost_err rfl rfl (by rfl) (by rfl) HF.out ?_
    exact ⟨x, y, z, true, rfl, err_below b5.out (Nat.le_refl _) _ _ _, by rw [HR.out]; rfl, fun t ht => by rw [HR.out] at ht; exact (Option.some.inj ht).symm⟩
  · have HR := hid (show pE s.data.toList = none by
      rw [HP.out]
      cases h1 : oa.isSome with
      | false => rw [opt_none h1]; exact com3_1 _ _
      | true =>
        cases h2 : ob.isSome with
        | false => rw [opt_none h2]; exact com3_2 _ _
        | true =>
          cases h3 : oc.isSome with
          | false => rw [opt_none h3]; exact com3_3 _ _
          | true => exact absurd ⟨⟨h1, h2⟩, h3⟩ hall)
    obtain ⟨⟨q1, q2, q3⟩, ⟨q4, q5, q6⟩, ⟨q7, q8⟩, q9, q10⟩ := err_cells g5.out (.int .i64 0) (.int .i64 0)
    have HF := hid (err_set g5.out (.int .i64 0) (.int .i64 0) (.int .i64 0))
    generalize oa.getD 0 = x at *
    generalize ob.getD 0 = y at *
    generalize oc.getD 0 = z at *
    generalize oa.isSome = ba at *
    generalize ob.isSome = bb at *
    generalize oc.isSome = bc at *
    cases ba with
    | false =>
      go_wp2
      (try simp only [Exit.inBlock, Exit.then])
      refine bodyPost_err rfl rfl (by rfl) (by rfl) HF.out ?_
      exact ⟨0, 0, 0, false, rfl, err_below b5.out (Nat.le_refl _) _ _ _, by rw [HR.out]; rfl, fun t ht => by rw [HR.out] at ht; cases ht⟩
    | true =>
      cases bb with
      | false =>
        go_wp2
        (try simp only [Exit.inBlock, Exit.then])
        refine bodyPost_err rfl rfl (by rfl) (by rfl) HF.out ?_
        exact ⟨0, 0, 0, false, rfl, err_below b5.out (Nat.le_refl _) _ _ _, by rw [HR.out]; rfl, fun t ht => by rw [HR.out] at ht; cases ht⟩
      | true =>
        cases bc with
        | true => exact absurd ⟨⟨rfl, rfl⟩, rfl⟩ hall
        | false =>
          clear hall
          go_wp2
          (try simp only [Exit.inBlock, Exit.then])
          refine bodyPost_err rfl rfl (by rfl) (by rfl) HF.out ?_
          exact ⟨0, 0, 0, false, rfl, err_below b5.out (Nat.le_refl _) _ _ _, by rw [HR.out]; rfl, fun t ht => by rw [HR.out] at ht; cases ht⟩
theorem c_l9Find (s : ByteArray) (c : UInt8) (w : World) (hs : s.size ≤ 281474976710656) :
    Calls Tryd.prog 41 #[.string s, .int .u8 c.toNat] w fun e w' => e = .returned (.int .i64 (Lib.indexByte s.data.toList c)) ∧ w = w' := by
  obtain ⟨l, hl⟩ : ∃ l, s.data.toList = l := ⟨_, rfl⟩
  have HD := hid hl
  have hlen := dt_len s
  rw [hl] at hlen ⊢
  clear hl
  go_enter Tryd.func41, Tryd.ntmps41
  go_wp2
  go_loopw [5] (fun i wr => ∃ j : Nat, j ≤ s.size ∧ i = .int .i64 j ∧ Hid (∀ k, k < j → l[k]? ≠ some c) ∧ w = wr) (fun i _ => s.size - (intOf i).toNat)
  case atStart => exact ⟨0, Nat.zero_le _, rfl, fun k hk => by omega, rfl⟩
  case round =>
    obtain ⟨j, hj, rfl, HN, rfl⟩ := hrel
    by_cases hlt : j < s.size
    · have hb := at_data hlt
      rw [HD.out] at hb
      have HB := hid hb
      have k0 : (0 : Int) ≤ (j : Int) := by omega
      have k1 : (j : Int) < s.size := by omega
      clear hb
      by_cases he : (s[j]'hlt) = c
      · have t1 : (((s[j]'hlt).toNat : Int) == (c.toNat : Int)) = true := by rw [he]; simp
        have HR := hid (show Lib.indexByte l c = (j : Int) from ix_iff (by rw [HB.out, he]) HN.out)
        clear he
        go_wp2
        go_ret
        exact ⟨by rw [HR.out]; rfl, rfl⟩
      · have t1 : (((s[j]'hlt).toNat : Int) == (c.toNat : Int)) = false := by
          rw [beq_eq_false_iff_ne]
          intro h
          exact he (UInt8.toNat_inj.1 (by omega))
        have HE := hid he
        clear he
        go_wp2
        go_roundw
        case rel =>
          refine ⟨j + 1, by omega, by go_num, fun k hk => ?_, trivial⟩
          by_cases e : k = j
          · subst e; rw [HB.out]; intro h; exact HE.out (Option.some.inj h)
          · exact HN.out k (by omega)
        case measure => simp [intOf]; omega
    · obtain rfl : j = s.size := by omega
      have HR := hid (show Lib.indexByte l c = -1 by
        have hg := Lib.indexByte_ge l c
        by_cases h : Lib.indexByte l c = -1
        · exact h
        · obtain ⟨q, hq⟩ : ∃ q : Nat, Lib.indexByte l c = q := ⟨(Lib.indexByte l c).toNat, by omega⟩
          have h1 := (Lib.indexByte_some hq).1
          obtain ⟨h2, _⟩ := List.getElem?_eq_some_iff.1 h1
          exact absurd h1 (HN.out q (by omega)))
      go_wp2
      go_ret
      exact ⟨by rw [HR.out]; rfl, rfl⟩
theorem take_data (s : ByteArray) (j : Nat) (h : j ≤ s.size) : (s.extract 0 j).data.toList = s.data.toList.take j := by
  rw [ByteArray.data_extract, Array.toList_extract, List.extract_eq_take_drop]; simp
theorem mid_data (s : ByteArray) (i j : Nat) : (s.extract i j).data.toList = (s.data.toList.drop i).take (j - i) := by
  rw [ByteArray.data_extract, Array.toList_extract, List.extract_eq_take_drop]
set_option maxHeartbeats 3200000 in
theorem c_l4Erratum (s : ByteArray) (w : World) (hs : s.size ≤ 16777216) :
    Calls Tryd.prog 26 #[.string s] w (RetEr w (pE s.data.toList)) := by
  have g0 := heap_alloc_new w (.cells #[.int .i64 0, .int .i64 0, .int .i64 0] 40)
  have b0 := RetRow.e1 w (.cells #[.int .i64 0, .int .i64 0, .int .i64 0] 40)
  have hs0 : (w.alloc (.cells #[.int .i64 0, .int .i64 0, .int .i64 0] 40)).heap.size = w.heap.size + 1 := by simp
  obtain ⟨wA, hwA⟩ : ∃ x, w.alloc (.cells #[.int .i64 0, .int .i64 0, .int .i64 0] 40) = x := ⟨_, rfl⟩
  rw [hwA] at g0 b0 hs0
  have HG0 := hid g0
  have HB0 := hid b0
  have HF1 := hid (fun W => c_l9Find s 58 W (by omega))
  have HF2 := hid (fun W => c_l9Find s 62 W (by omega))
  have hga := Lib.indexByte_ge s.data.toList 58
  have hgb := Lib.indexByte_ge s.data.toList 62
  have HN1 := hid (pE_no1 (l := s.data.toList))
  have HN2 := hid (fun (a : Nat) => pE_no2 (l := s.data.toList) (a := a))
  have HAT := hid (fun (a b : Nat) => pE_at (l := s.data.toList) (a := a) (b := b))
  have HBL := hid (fun (b : Nat) (h : Lib.indexByte s.data.toList 62 = b) => (show b < s.size by have := (ix_split h).1; rwa [dt_len] at this))
  obtain ⟨P, hP⟩ : ∃ P, pE s.data.toList = P := ⟨_, rfl⟩
  obtain ⟨a, ha⟩ : ∃ a, Lib.indexByte s.data.toList 58 = a := ⟨_, rfl⟩
  obtain ⟨b, hb⟩ : ∃ b, Lib.indexByte s.data.toList 62 = b := ⟨_, rfl⟩
  rw [ha] at hga HF1 HN1
  rw [hb] at hgb HF2
  rw [hP] at HN1
  have HA := hid ha
  have HB := hid hb
  have HP := hid hP
  rw [hP]
  obtain ⟨⟨q1, q2, q3⟩, ⟨q4, q5, q6⟩, ⟨q7, q8⟩, q9, q10⟩ := err_cells g0 (.int .i64 0) (.int .i64 0)
  have HF := hid (err_set g0 (.int .i64 0) (.int .i64 0) (.int .i64 0))
  clear ha hb hP g0 b0
  go_enter Tryd.func26, Tryd.ntmps26
  go_wp2_with fail
  clear hwA
  refine (HF1.out _).mono ?_
  rintro e wx ⟨rfl, rfl⟩
  go_wp2_with fail
  refine (HF2.out _).mono ?_
  rintro e wx ⟨rfl, rfl⟩
  by_cases ha0 : a < 0
  · have HR := hid (HN1.out ha0)
    go_wp2
    (try simp only [Exit.inBlock, Exit.then])
    refine bodyPost_err rfl rfl (by rfl) (by rfl) HF.out ?_
    exact ⟨0, 0, 0, false, rfl, err_below HB0.out (Nat.le_refl _) _ _ _, by rw [HR.out]; rfl, fun t ht => by rw [HR.out] at ht; cases ht⟩
  · obtain ⟨A, rfl⟩ : ∃ A : Nat, a = A := ⟨a.toNat, by omega⟩
    by_cases hba : b < (A : Int)
    · have HR := hid (show P = none by rw [← HP.out]; exact HN2.out A HA.out (by rw [HB.out]; exact hba))
      go_wp2
      (try simp only [Exit.inBlock, Exit.then])
      refine bodyPost_err rfl rfl (by rfl) (by rfl) HF.out ?_
      exact ⟨0, 0, 0, false, rfl, err_below HB0.out (Nat.le_refl _) _ _ _, by rw [HR.out]; rfl, fun t ht => by rw [HR.out] at ht; cases ht⟩
    · obtain ⟨C, rfl⟩ : ∃ C : Nat, b = C := ⟨b.toNat, by omega⟩
      obtain ⟨hlt, hpe⟩ := HAT.out A C HA.out HB.out (by omega)
      have hC := HBL.out C HB.out
      rw [HP.out] at hpe
      have e1 : (s.extract 0 A).data.toList = s.data.toList.take A := take_data s A (by omega)
      have e2 : (s.extract (A + 1) C).data.toList = (s.data.toList.drop (A + 1)).take (C - (A + 1)) := mid_data _ _ _
      have e3 : (s.extract (C + 1) s.size).data.toList = s.data.toList.drop (C + 1) := drop_data _ _
      rw [← e1, ← e2, ← e3] at hpe
      have HPE := hid hpe
      have HX1 := hid (fun W => c_l9Num (s.extract 0 A) W (by rw [ByteArray.size_extract]; omega))
      have HX2 := hid (fun W => c_l9Num (s.extract (A + 1) C) W (by rw [ByteArray.size_extract]; omega))
      have HX3 := hid (fun W => c_l9Num (s.extract (C + 1) s.size) W (by rw [ByteArray.size_extract]; omega))
      obtain ⟨oa, hoa⟩ : ∃ o, pN (s.extract 0 A).data.toList = o := ⟨_, rfl⟩
      obtain ⟨ob, hob⟩ : ∃ o, pN (s.extract (A + 1) C).data.toList = o := ⟨_, rfl⟩
      obtain ⟨oc, hoc⟩ : ∃ o, pN (s.extract (C + 1) s.size).data.toList = o := ⟨_, rfl⟩
      rw [hoa, hob, hoc] at HPE
      rw [hoa] at HX1
      rw [hob] at HX2
      rw [hoc] at HX3
      have r0 : (0 : Int) ≤ (A : Int) := by omega
      have r1 : (A : Int) ≤ (s.size : Int) := by omega
      have r2 : (0 : Int) ≤ (A : Int) + 1 := by omega
      have r3 : (A : Int) + 1 ≤ (C : Int) := by omega
      have r4 : (C : Int) ≤ (s.size : Int) := by omega
      have r5 : (C : Int) + 1 ≤ (s.size : Int) := by omega
      have r6 : ((A : Int) + 1).toNat = A + 1 := by omega
      have r7 : ((C : Int) + 1).toNat = C + 1 := by omega
      have r8 : (0 : Int) ≤ (C : Int) + 1 := by omega
      clear hpe e1 e2 e3 hoa hob hoc q1 q2 q3 q4 q5 q6 q7 q8 q9 q10 HF
      go_wp2_with fail
      refine (HX1.out _).mono ?_
      rintro e w3 ⟨rfl, c⟩
      have b3 := hid (HB0.out.trans (c.mono HB0.out.size))
      have g3 := hid ((c.block w.heap.size (by omega)).trans HG0.out)
      have s3 := c.size
      clear c
      go_wp2_with fail
      refine (HX2.out _).mono ?_
      rintro e w4 ⟨rfl, c⟩
      have b4 := hid (b3.out.trans (c.mono b3.out.size))
      have g4 := hid ((c.block w.heap.size (by omega)).trans g3.out)
      have s4 := c.size
      clear c b3 g3
      go_wp2_with fail
      refine (HX3.out _).mono ?_
      rintro e w5 ⟨rfl, c⟩
      have b5 := hid (b4.out.trans (c.mono b4.out.size))
      have g5 := hid ((c.block w.heap.size (by omega)).trans g4.out)
      clear c b4 g4
      have HV := hid (show (oa.isSome && ob.isSome && oc.isSome) = P.isSome by
        rw [HPE.out]; cases oa <;> cases ob <;> cases oc <;> rfl)
      have HW := hid (show ∀ t, P = some t → t = (oa.getD 0, ob.getD 0, oc.getD 0) from fun t ht => by
        rw [HPE.out] at ht
        obtain ⟨h1, h2, h3⟩ := com3_some ht
        rw [h1, h2, h3]; rfl)
      generalize oa.getD 0 = x at *
      generalize ob.getD 0 = y at *
      generalize oc.getD 0 = z at *
      generalize oa.isSome = ba at *
      generalize ob.isSome = bb at *
      generalize oc.isSome = bc at *
      obtain ⟨⟨q1, q2, q3⟩, ⟨q4, q5, q6⟩, ⟨q7, q8⟩, q9, q10⟩ := err_cells g5.out (.int .i64 x) (.int .i64 y)
      have HF := hid (err_set g5.out (.int .i64 x) (.int .i64 y) (.int .i64 z))
      cases ba <;> cases bb <;> cases bc
      all_goals
        go_wp2
        (try simp only [Exit.inBlock, Exit.then])
        refine bodyPost_err rfl rfl (by rfl) (by rfl) HF.out ?_
        exact ⟨x, y, z, _, rfl, err_below b5.out (Nat.le_refl _) _ _ _, HV.out, HW.out⟩
end Go.Proofs.YtlinkeemccnfmaaDoor
