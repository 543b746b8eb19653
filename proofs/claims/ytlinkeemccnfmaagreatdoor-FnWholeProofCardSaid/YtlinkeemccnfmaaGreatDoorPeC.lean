/- What is proved here: those statements of PeC that this claim needs. -/
import Derived.Test.YtlinkeemccnfmaaGreatDoorPeM
set_option linter.unusedVariables false
set_option linter.unusedSimpArgs false
set_option maxRecDepth 100000
namespace Go.Proofs.YtlinkeemccnfmaaGreatDoor
open Go.RowKit
theorem pe_not_dash {s : ByteArray} (h : s ≠ ⟨#[45]⟩) : (s.toList == [45]) = false := by
  rw [ByteArray.toList_eq]
  by_cases e : s.data.toList = [45]
  · exact absurd (by_data (by rw [e])) h
  · simpa using e
theorem bel_k {n0 k : Nat} {w0 W : World} {o : Obj} (h : W.heap[k]? = some o) {W' : World} (hb : Below W.heap.size W W') : W'.heap[k]? = some o :=
  (hb.block k (Array.getElem?_eq_some_iff.1 h).1).trans h
theorem Tryz.infoEr1 : (Tryz.prog.info? 67).map (·.size) = some 3 := by kernel_rfl
theorem bodyPost_err {fn : Func} {p u : Tmp} (h : fn.results = #[.cell p 67, .tmp u]) {a : Act} {w' : World} {g : Nat} {x y z ok : Value} {Q : Ending → World → Prop}
    (hd : a.defers = []) (hp : a.tmps.getD p undef = .pointer (some ⟨g, 0, none⟩)) (hu : a.tmps.getD u undef = ok) (hg : w'.heap[g]? = some (.cells #[x, y, z] 67 (0, 0)))
    (hq : Q (.returned (.tuple #[.agg #[x, y, z], ok])) w') : bodyPost Tryz.prog fn Q .ret a w' := by
  refine bodyPost_ret (v := .tuple #[.agg #[x, y, z], ok]) ?_ hd hq
  rw [results_cell_tmp h, hp, hu]
  simp [asAddr, Result.andThen, run_loadVar_row (P := Tryz.prog) w' g 67 67 #[x, y, z] (0, 0) _ hg Tryz.underlying67 rfl Tryz.infoEr1]
theorem err_cells {w : World} {g : Nat} {a b c : Value} {t : TypeId} (h : w.heap[g]? = some (.cells #[a, b, c] t (0, 0))) (x y : Value) :
    (w.cell? ⟨g, 0, none⟩ = some a ∧ w.cell? ⟨g, 1, none⟩ = some b ∧ w.cell? ⟨g, 2, none⟩ = some c) ∧ (w.frozen? ⟨g, 0, none⟩ = false ∧ w.frozen? ⟨g, 1, none⟩ = false ∧ w.frozen? ⟨g, 2, none⟩ = false) ∧
    ((w.setCell ⟨g, 0, none⟩ x).cell? ⟨g, 1, none⟩ = some b ∧ (w.setCell ⟨g, 0, none⟩ x).frozen? ⟨g, 1, none⟩ = false) ∧
    (((w.setCell ⟨g, 0, none⟩ x).setCell ⟨g, 1, none⟩ y).cell? ⟨g, 2, none⟩ = some c ∧ ((w.setCell ⟨g, 0, none⟩ x).setCell ⟨g, 1, none⟩ y).frozen? ⟨g, 2, none⟩ = false) :=
  ⟨⟨by rw [row_cell h]; rfl, by rw [row_cell h]; rfl, by rw [row_cell h]; rfl⟩, ⟨row_free h 0, row_free h 1, row_free h 2⟩, ⟨by rw [row_cell (row_set h 0 x)]; rfl, row_free (row_set h 0 x) 1⟩,
   ⟨by rw [row_cell (row_set (row_set h 0 x) 1 y)]; rfl, row_free (row_set (row_set h 0 x) 1 y) 2⟩⟩
theorem err_set {w : World} {g : Nat} {a b c : Value} {t : TypeId} (h : w.heap[g]? = some (.cells #[a, b, c] t (0, 0))) (x y z : Value) :
    (((w.setCell ⟨g, 0, none⟩ x).setCell ⟨g, 1, none⟩ y).setCell ⟨g, 2, none⟩ z).heap[g]? = some (.cells #[x, y, z] t (0, 0)) := by
  rw [row_set (row_set (row_set h 0 x) 1 y) 2 z]; rfl
theorem err_below {w w' : World} {g B : Nat} (h : Below B w w') (hg : B ≤ g) (x y z : Value) : Below B w (((w'.setCell ⟨g, 0, none⟩ x).setCell ⟨g, 1, none⟩ y).setCell ⟨g, 2, none⟩ z) :=
  ((h.setCell (p := ⟨g, 0, none⟩) hg x).setCell (p := ⟨g, 1, none⟩) hg y).setCell (p := ⟨g, 2, none⟩) hg z
def RetEr (w : World) (o : Option (Int × Int × Int)) (e : Ending) (w' : World) : Prop :=
  ∃ (x y z : Int) (b : Bool), e = .returned (.tuple #[.agg #[.int .i64 x, .int .i64 y, .int .i64 z], .bool b]) ∧ Below w.heap.size w w' ∧
   b = o.isSome ∧ ∀ t, o = some t → t = (x, y, z)
theorem opt_none {o : Option Int} (h : o.isSome = false) : o = none := by cases o <;> simp_all
theorem opt_some {o : Option Int} (h : o.isSome = true) : o = some (o.getD 0) := by cases o <;> simp_all
set_option maxHeartbeats 3200000 in
theorem c_parseErratum (s : ByteArray) (w : World) (B : Nat) (hs : s.size ≤ 16777216) (hB : B ≤ w.heap.size) (hL : LibV B w) :
    Calls Tryz.prog 48 #[.string s] w (RetEr w (pE s.data.toList)) := by
  have HL := hid hL
  obtain ⟨-, ⟨⟨m, hm⟩, hmB⟩, -, -⟩ := hL
  have g0 := heap_alloc_new w (.cells #[.int .i64 0, .int .i64 0, .int .i64 0] 67)
  have b0 := RetRow.e1 w (.cells #[.int .i64 0, .int .i64 0, .int .i64 0] 67)
  have hs0 : (w.alloc (.cells #[.int .i64 0, .int .i64 0, .int .i64 0] 67)).heap.size = w.heap.size + 1 := by simp
  obtain ⟨wA, hwA⟩ : ∃ x, w.alloc (.cells #[.int .i64 0, .int .i64 0, .int .i64 0] 67) = x := ⟨_, rfl⟩
  rw [hwA] at g0 b0 hs0
  have HG0 := hid g0
  have HB0 := hid b0
  have HM0 := hid ((b0.cell (p := ⟨2, 0, none⟩) (show 2 < w.heap.size by omega)).trans hm)
  have HP := hid (show pE s.data.toList = com3 (pN (Lib.cut s.data.toList [58]).1) (pN (Lib.cut (Lib.cut s.data.toList [58]).2.1 [62]).1) (pN (Lib.cut (Lib.cut s.data.toList [58]).2.1 [62]).2.1) from rfl)
  have hl1 : (Lib.cut s.data.toList [58]).1.length ≤ s.size ∧ (Lib.cut s.data.toList [58]).2.1.length ≤ s.size := by
    rw [Lib.cut]; have := dt_len s
    split
    · simp only [List.length_take, List.length_drop]; omega
    · simp only [List.length_nil]; omega
  obtain ⟨A, hA⟩ : ∃ A, (Lib.cut s.data.toList [58]).1 = A := ⟨_, rfl⟩
  obtain ⟨R, hR⟩ : ∃ R, (Lib.cut s.data.toList [58]).2.1 = R := ⟨_, rfl⟩
  obtain ⟨f1, hf1⟩ : ∃ f, (Lib.cut s.data.toList [58]).2.2 = f := ⟨_, rfl⟩
  have HC1 := hid (fun W (hmW : W.cell? ⟨2, 0, none⟩ = some (.int .i64 m)) => (show Calls Tryz.prog 72 #[.string s, .string ⟨#[58]⟩] W fun e w' => e = .returned (.tuple #[.string ⟨A.toArray⟩, .string ⟨R.toArray⟩, .bool f1]) ∧ ∃ n, w' = W.drewN n by
    rw [← hA, ← hR, ← hf1]; exact Tryz.strings_Cut s ⟨#[58]⟩ m W (by omega) hmW))
  rw [hA, hR] at hl1 HP
  have hl2 : (Lib.cut R [62]).1.length ≤ R.length ∧ (Lib.cut R [62]).2.1.length ≤ R.length := by
    rw [Lib.cut]
    split
    · simp only [List.length_take, List.length_drop]; omega
    · simp only [List.length_nil]; omega
  obtain ⟨C, hC⟩ : ∃ C, (Lib.cut R [62]).1 = C := ⟨_, rfl⟩
  obtain ⟨D, hD⟩ : ∃ D, (Lib.cut R [62]).2.1 = D := ⟨_, rfl⟩
  obtain ⟨f2, hf2⟩ : ∃ f, (Lib.cut R [62]).2.2 = f := ⟨_, rfl⟩
  have hRs : (⟨R.toArray⟩ : ByteArray).size = R.length := mk_size R
  have HC2 := hid (fun W (hmW : W.cell? ⟨2, 0, none⟩ = some (.int .i64 m)) => (show Calls Tryz.prog 72 #[.string ⟨R.toArray⟩, .string ⟨#[62]⟩] W fun e w' => e = .returned (.tuple #[.string ⟨C.toArray⟩, .string ⟨D.toArray⟩, .bool f2]) ∧ ∃ n, w' = W.drewN n by
    rw [← hC, ← hD, ← hf2]; exact Tryz.strings_Cut ⟨R.toArray⟩ ⟨#[62]⟩ m W (by omega) hmW))
  rw [hC, hD] at hl2 HP
  have HN1 := hid (fun W (hW : B ≤ W.heap.size) (hLW : LibV B W) => c_parseNumber ⟨A.toArray⟩ W B (by rw [mk_size]; omega) hW hLW)
  have HN2 := hid (fun W (hW : B ≤ W.heap.size) (hLW : LibV B W) => c_parseNumber ⟨C.toArray⟩ W B (by rw [mk_size]; omega) hW hLW)
  have HN3 := hid (fun W (hW : B ≤ W.heap.size) (hLW : LibV B W) => c_parseNumber ⟨D.toArray⟩ W B (by rw [mk_size]; omega) hW hLW)
  have hbB := b0.size
  clear hA hR hf1 hC hD hf2 g0 hRs hl1 hl2 hm
  go_enter Tryz.func48, Tryz.ntmps48
  go_wp2_with fail
  clear hwA
  refine (HC1.out _ HM0.out).mono ?_
  rintro e w1 ⟨rfl, n1, rfl⟩
  go_wp2_with fail
  refine (HC2.out (wA.drewN n1) HM0.out).mono ?_
  rintro e w2 ⟨rfl, n2, rfl⟩
  obtain ⟨w2, hw2⟩ : ∃ x, (wA.drewN n1).drewN n2 = x := ⟨_, rfl⟩
  have bD : Below wA.heap.size wA w2 := by rw [← hw2]; exact bel_drewN (bel_drewN (Below.refl _ _) _) _
  rw [hw2]
  have b2 := hid (HB0.out.trans (bD.mono HB0.out.size))
  have g2 := hid ((bD.block w.heap.size (by omega)).trans HG0.out)
  have hsz2 := bD.size
  have HL2 := hid (HL.out.to b2.out hB)
  clear hw2 bD
  go_wp2_with fail
  refine (HN1.out _ (by omega) HL2.out).mono ?_
  rintro e w3 ⟨rfl, c⟩
  have b3 := hid (b2.out.trans (c.mono b2.out.size))
  have g3 := hid ((c.block w.heap.size (by omega)).trans g2.out)
  have s3 := c.size
  have HL3 := hid (HL.out.to b3.out hB)
  clear c b2 g2
  go_wp2_with fail
  refine (HN2.out _ (by omega) HL3.out).mono ?_
  rintro e w4 ⟨rfl, c⟩
  have b4 := hid (b3.out.trans (c.mono b3.out.size))
  have g4 := hid ((c.block w.heap.size (by omega)).trans g3.out)
  have s4 := c.size
  have HL4 := hid (HL.out.to b4.out hB)
  clear c b3 g3
  go_wp2_with fail
  refine (HN3.out _ (by omega) HL4.out).mono ?_
  rintro e w5 ⟨rfl, c⟩
  have b5 := hid (b4.out.trans (c.mono b4.out.size))
  have g5 := hid ((c.block w.heap.size (by omega)).trans g4.out)
  clear c b4 g4
  obtain ⟨oa, hoa⟩ : ∃ o, pN A = o := ⟨_, rfl⟩
  obtain ⟨ob, hob⟩ : ∃ o, pN C = o := ⟨_, rfl⟩
  obtain ⟨oc, hoc⟩ : ∃ o, pN D = o := ⟨_, rfl⟩
  rw [hoa, hob, hoc] at HP
  rw [hoa, hob, hoc]
  clear hoa hob hoc HN1 HN2 HN3 HC1 HC2 HL2 HL3 HL4
  by_cases hall : (oa.isSome = true ∧ ob.isSome = true) ∧ oc.isSome = true
  · obtain ⟨⟨ha, hb⟩, hc⟩ := hall
    have HR := hid (show pE s.data.toList = some (oa.getD 0, ob.getD 0, oc.getD 0) by
      rw [HP.out, opt_some ha, opt_some hb, opt_some hc]; rfl)
    obtain ⟨x, hx⟩ : ∃ x, oa.getD 0 = x := ⟨_, rfl⟩
    obtain ⟨y, hy⟩ : ∃ x, ob.getD 0 = x := ⟨_, rfl⟩
    obtain ⟨z, hz⟩ : ∃ x, oc.getD 0 = x := ⟨_, rfl⟩
    rw [hx, hy, hz] at HR
    rw [hx, hy, hz, ha, hb, hc]
    obtain ⟨⟨q1, q2, q3⟩, ⟨q4, q5, q6⟩, ⟨q7, q8⟩, q9, q10⟩ := err_cells g5.out (.int .i64 x) (.int .i64 y)
    have HF := hid (err_set g5.out (.int .i64 x) (.int .i64 y) (.int .i64 z))
    clear hx hy hz ha hb hc
    go_wp2
    (try simp only [Exit.inBlock, Exit.then])
    refine bodyPost_err rfl rfl (by rfl) (by rfl) HF.out ?_
    exact ⟨x, y, z, true, rfl, err_below b5.out (Nat.le_refl _) _ _ _, by rw [HR.out]; rfl, fun t ht => by rw [HR.out] at ht; exact (Option.some.inj ht).symm⟩
  · have HR := hid (show pE s.data.toList = none by
      rw [HP.out]
      cases h1 : oa.isSome with
      | false => rw [opt_none h1]; exact com3_1 _ _
      | true =>
        cases h2 : ob.isSome with
        | false => rw [opt_none h2]; exact com3_2 _ _
        | true =>
          cases h3 : oc.isSome with
          | false => rw [opt_none h3]; exact com3_3 _ _
          | true => exact absurd ⟨⟨h1, h2⟩, h3⟩ hall)
    obtain ⟨⟨q1, q2, q3⟩, ⟨q4, q5, q6⟩, ⟨q7, q8⟩, q9, q10⟩ := err_cells g5.out (.int .i64 0) (.int .i64 0)
    have HF := hid (err_set g5.out (.int .i64 0) (.int .i64 0) (.int .i64 0))
    generalize oa.getD 0 = x at *
    generalize ob.getD 0 = y at *
    generalize oc.getD 0 = z at *
    generalize oa.isSome = ba at *
    generalize ob.isSome = bb at *
    generalize oc.isSome = bc at *
    cases ba with
    | false =>
      go_wp2
      (try simp only [Exit.inBlock, Exit.then])
      refine bodyPost_err rfl rfl (by rfl) (by rfl) HF.out ?_
      exact ⟨0, 0, 0, false, rfl, err_below b5.out (Nat.le_refl _) _ _ _, by rw [HR.out]; rfl, fun t ht => by rw [HR.out] at ht; cases ht⟩
    | true =>
      cases bb with
      | false =>
        go_wp2
        (try simp only [Exit.inBlock, Exit.then])
        refine bodyPost_err rfl rfl (by rfl) (by rfl) HF.out ?_
        exact ⟨0, 0, 0, false, rfl, err_below b5.out (Nat.le_refl _) _ _ _, by rw [HR.out]; rfl, fun t ht => by rw [HR.out] at ht; cases ht⟩
      | true =>
        cases bc with
        | true => exact absurd ⟨⟨rfl, rfl⟩, rfl⟩ hall
        | false =>
          clear hall
          go_wp2
          (try simp only [Exit.inBlock, Exit.then])
          refine bodyPost_err rfl rfl (by rfl) (by rfl) HF.out ?_
          exact ⟨0, 0, 0, false, rfl, err_below b5.out (Nat.le_refl _) _ _ _, by rw [HR.out]; rfl, fun t ht => by rw [HR.out] at ht; cases ht⟩
end Go.Proofs.YtlinkeemccnfmaaGreatDoor
