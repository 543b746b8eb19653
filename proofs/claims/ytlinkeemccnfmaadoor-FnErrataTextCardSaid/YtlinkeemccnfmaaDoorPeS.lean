/- What is proved here: errata read off their text, by the reference. -/
import Derived.Test.YtlinkeemccnfmaaDoorCt9
import Derived.Test.YtlinkeemccnfmaaDoorPeC
import Derived.Test.YtlinkeemccnfmaaDoorEof
set_option linter.unusedVariables false
set_option linter.unusedSimpArgs false
set_option maxRecDepth 100000
namespace Go.Proofs.YtlinkeemccnfmaaDoor
open Go.RowKit

theorem wpList_app3 {ops : Array Oper} {rest : List Oper} {o : Oper} {a : Act} {Q : Exit → Act → World → Prop} {W : World} {x y z : Int} (hgd : o.guard = none) (s t : Operand) (T : TypeId)
    (ho : o.op = .call { callee := .builtin .append, args := #[s, t], argTypes := #[T, T] }) (hT : Tryd.prog.underlying T = some (.slice 40))
    (lo : Nat) (v : Value) (m : Nat) (L : List Int) (hs : a.eval s = v) (hx : a.eval t = .slice (some ⟨W.heap.size, 0, none⟩) 1 1) (hown : OwnE W lo v m L) (hm : m ≤ 1000000000) (hlo : lo ≤ W.heap.size)
    (h : ∀ v' W', OwnE W' lo v' (m + 1) (L ++ [x, y, z]) → (Below lo W W' ∧ ∀ (k : Nat) (cur : Array Value), W.heap[k]? = some (.cells cur 9 (0, 0)) → W'.heap[k]? = some (.cells cur 9 (0, 0))) → wpList Tryd.prog ops Q rest (a.put o.dst v') W') :
    wpList Tryd.prog ops Q (o :: rest) a (W.alloc (.cells #[.int .i64 x, .int .i64 y, .int .i64 z] 40)) := by
  obtain ⟨i0, hi, hz0, hz1, hz2⟩ := info_parts Tryd.infoErr
  refine wpList_append_own _ hgd s t T ho lo 40 i0 _ 3 24 hT hi hz0 hz1 hz2 rfl (by omega) v m (L.map (Value.int .i64)) hs (World.ownsRow.alloc hown _) ⟨W.heap.size, 0, none⟩ 1 1 [.int .i64 x, .int .i64 y, .int .i64 z] hx rfl ?_ (by simp [Value.oneCell']) ?_ ?_ ?_ ?_
  · intro j u hu
    have hadd : (⟨W.heap.size, 0, none⟩ : Addr).add j = ⟨W.heap.size, j, none⟩ := by unfold Addr.add; split <;> simp_all
    rw [hadd, World.cell?_alloc_at _ _ _ _ rfl]
    simpa using hu
  · unfold maxLen; omega
  · omega
  · simp; omega
  · intro v' W' hown' hg _
    refine h v' W' (by unfold OwnE; simpa using hown') ⟨((Below.refl _ _).alloc hlo _).trans ⟨hg.os, hg.tape, hg.output, hg.size, fun k hk => hg.block k (by simp; omega) (fun e => by have := (World.ownsRow.lt hown k e.symm).1; omega)⟩, fun k cur hk => ?_⟩
    have hlt := (Array.getElem?_eq_some_iff.1 hk).1
    have hk2 := (Below.heap_alloc W (.cells #[.int .i64 x, .int .i64 y, .int .i64 z] 40) k hlt).trans hk
    refine (hg.block k (by simp; omega) (fun e => ?_)).trans hk2
    rcases hown.2 with ⟨rfl, -⟩ | ⟨gg, cap, cur2, rfl, -, hgg, -⟩
    · cases e
    · have e2 : k = gg := by simpa [Value.ownBlock] using e
      subst e2
      rw [hgg] at hk; cases hk
theorem own_formE {W : World} {lo n : Nat} {v : Value} {L : List Int} (h : OwnE W lo v n L) : ∃ a cap, v = .slice a n cap := by
  rcases h.2 with ⟨rfl, e⟩ | ⟨gg, cap, cur, rfl, -, hgg, -⟩
  · exact ⟨none, 0, by rw [e]⟩
  · exact ⟨_, cap, rfl⟩
theorem rwT_row {w : World} {lo hi g n cap : Nat} {cs : List ByteArray} (h : RwT w lo hi (.slice (some ⟨g, 0, none⟩) n cap) cs) : ∃ cur, n = cs.length ∧ g < hi ∧ w.heap[g]? = some (.cells cur 9 (0, 0)) ∧ ∀ i, i < cs.length → cur[i]? = some (.string (tC cs i)) := by
  obtain ⟨g', cap', cur, hv, hg, hgg, hm, hs, hc⟩ := h
  simp only [Value.slice.injEq, Option.some.injEq, Addr.mk.injEq, and_true] at hv
  obtain ⟨rfl, rfl, rfl⟩ := hv
  exact ⟨cur, rfl, hg.2, hgg, fun i hi => (hc i hi).1⟩
theorem upE {w : World} {lo hi hi' : Nat} {v : Value} {zs : List Int} (h : RwE w lo hi v zs) (hh : hi ≤ hi') : RwE w lo hi' v zs := by
  obtain ⟨n, h1, h2, h3, h4⟩ := h
  exact ⟨n, h1, h2, fun k hk => Nat.lt_of_lt_of_le (h3 k hk) hh, h4⟩
theorem take_tC {q : List ByteArray} {j : Nat} (h : j < q.length) : q.take (j + 1) = q.take j ++ [tC q j] := by
  rw [List.take_add_one, List.getElem?_eq_getElem h, tC_lt h]; rfl
theorem tC_mem {q : List ByteArray} {j : Nat} (h : j < q.length) : tC q j ∈ q := by rw [tC_lt h]; exact List.getElem_mem h
/-- What the text of errata is held against: the errata of the first pieces. -/
theorem pe_verdict {s : ByteArray} (hd : s ≠ ⟨#[45]⟩) {j : Nat} {L : List Int} (hj : j = (cB s).length ∨ (j = 61 ∧ j ≤ (cB s).length)) (h : pL ((cB s).take j) = some L) :
    (EV L = true ∧ j = (cB s).length ∧ FT L = s ∧ EP s = some L) ∨ (FT L = ⟨#[]⟩ ∧ s ≠ ⟨#[]⟩ ∧ EP s = none) := by
  have hne : s ≠ ⟨#[]⟩ := by
    rintro rfl
    have h1 : (cB ⟨#[]⟩).length = 1 := rfl
    have h2 : j = 1 := by omega
    subst h2
    have : pL ((cB (⟨#[]⟩ : ByteArray)).take 1) = none := pL_no (s := ⟨#[]⟩) (by simp [cB, cuts]) (by
      show pE [] = none
      exact pE_no1 (by decide))
    rw [this] at h; cases h
  rcases Nat.lt_or_ge j (cB s).length with hlt | hge
  · have h61 : j = 61 := by omega
    have hl := pL_len h
    rw [List.length_take, Nat.min_eq_left (by omega)] at hl
    have he : EV L = false := EV_many hl (by omega)
    refine .inr ⟨FT_no he, hne, ?_⟩
    cases hp : pL (cB s) with
    | none => exact EP_none hd hp
    | some M => exact EP_bad hd hp (EV_many (pL_len hp) (by omega))
  · have hjj : j = (cB s).length := by omega
    rw [hjj, List.take_length] at h
    cases he : EV L with
    | true => exact .inl ⟨rfl, hjj, EP_text (EP_yes hd h he), EP_yes hd h he⟩
    | false => exact .inr ⟨FT_no he, hne, EP_bad hd h he⟩
set_option maxHeartbeats 6400000 in
theorem c_sParseErrata (s : ByteArray) (w : World) (hs : s.size ≤ 2000000) :
    Calls Tryd.prog 11 #[.string s] w (RetErrB w ((EP s).getD []) (EP s).isSome) := by
  have bE := RetRow.e1 w (.cells #[] 40)
  have oE := OwnE.empty w (B := w.heap.size) (c := #[]) (Nat.le_refl _) rfl
  by_cases hd : s = ⟨#[45]⟩
  · have HR := hid (show EP s = some [] by rw [hd]; exact EP_dash)
    have t1 : (s.toList == [45]) = true := by rw [hd, ByteArray.toList_eq]; rfl
    have HB := hid bE
    have HO := hid oE
    clear hd bE oE
    go_enter Tryd.func11, Tryd.ntmps11
    go_wp2
    go_ret2
    rw [HR.out]
    exact ⟨_, rfl, HO.out.rw rfl R64.nil (Nat.le_refl _), HB.out⟩
  · have t1 := pe_not_dash hd
    have HD := hid hd
    have HOE := hid oE
    have HBE := hid bE
    obtain ⟨wA, hwA⟩ : ∃ x, w.alloc (.cells #[] 40) = x := ⟨_, rfl⟩
    rw [hwA] at HOE HBE
    clear hd oE bE
    have HV := hid (fun j L => pe_verdict (s := s) HD.out (j := j) (L := L))
    have HQ := hid (fun q (hq : q ∈ cB s) => cB_size s hq)
    have hlen := (cB_len s).2
    have HL9 := hid (fun W => c_l9Cut s W hs)
    have HNO := hid (fun q (hq : q ∈ cB s) (h : pE q.data.toList = none) => EP_none HD.out (pL_no hq h))
    obtain ⟨ps, hps⟩ : ∃ ps, cB s = ps := ⟨_, rfl⟩
    rw [hps] at HV HQ hlen HL9 HNO
    clear hps
    go_enter Tryd.func11, Tryd.ntmps11
    go_wp2_with fail
    clear hwA
    refine (HL9.out _).mono ?_
    rintro e w3 ⟨v, rfl, r, b2⟩
    obtain ⟨gr, cr, hgr⟩ := r.form
    subst hgr
    have HI := hid r.isT
    obtain ⟨grr, hgr1, hgr2, hgr3, hgr4⟩ := rwT_row r
    have HGR := hid hgr3
    have HGC := hid hgr4
    have HB3 := hid (HBE.out.trans (b2.mono HBE.out.size))
    have HO3 := hid (OwnE.below HOE.out b2 (Nat.le_refl _))
    clear r b2 hgr3 hgr4
    obtain ⟨N, hN⟩ : ∃ N, ps.length = N := ⟨_, rfl⟩
    have hNN := hid hN
    clear hN
    rw [hNN.out] at hlen ⊢
    go_wp2
    go_loopw [4, 6] (fun o i wr => ∃ (j : Nat) (ad : Option Addr) (cap : Nat) (L : List Int), i = .int .i64 j ∧ o = .slice ad j cap ∧ j ≤ N ∧ j ≤ 61 ∧ Hid (pL (ps.take j) = some L) ∧ OwnE wr w.heap.size (.slice ad j cap) j L ∧ Below w.heap.size w wr ∧ Hid (wr.heap[gr]? = some (.cells grr 9 (0, 0)))) (fun _ i _ => 62 - (intOf i).toNat)
    case atStart => exact ⟨0, _, 0, [], rfl, rfl, Nat.zero_le _, by omega, rfl, HO3.out, HB3.out, HGR.out⟩
    case round =>
      obtain ⟨j, ad, cap, L, rfl, rfl, hjN, hj61, HPL, ho, hbel, hb3⟩ := hrel
      have hR := pL_R64 HPL.out
      have hll := pL_len HPL.out
      rw [List.length_take, hNN.out, Nat.min_eq_left hjN] at hll
      have HRW := hid (OwnE.rw ho hll hR (Nat.le_refl _))
      have HLL := hid hll
      have HBEL := hid hbel
      have HO := hid ho
      clear hR hll hbel ho
      have sbel := HBEL.out.size
      by_cases hrun : j < N ∧ j ≤ 60
      · obtain ⟨hlt, h60⟩ := hrun
        have k0 : (0 : Int) ≤ (j : Int) := by omega
        have k1 : (j : Int) < (N : Int) := by omega
        have k2 : (j : Int) ≤ 60 := by omega
        have hltp : j < ps.length := by rw [hNN.out]; exact hlt
        have hcl := (row_cell hb3.out j).trans (HGC.out j hltp)
        have hbl := (Array.getElem?_eq_some_iff.1 hb3.out).1
        have hqs := HQ.out _ (tC_mem hltp)
        have HP := hid (c_l4Erratum (tC ps j) wr (by omega))
        have HTK := hid (take_tC hltp)
        have HMEM := hid (tC_mem hltp)
        clear hltp
        go_wp2_with fail
        refine HP.out.mono ?_
        rintro e W1 ⟨x, y, z, b, rfl, bb, hb, ht⟩
        have hg := heap_alloc_new W1 (.cells #[.int .i64 0, .int .i64 0, .int .i64 0] 40)
        have ba := bb.trans ((RetRow.e1 W1 (.cells #[.int .i64 0, .int .i64 0, .int .i64 0] 40)).mono bb.size)
        have sbb := bb.size
        obtain ⟨g, hgg⟩ : ∃ g, W1.heap.size = g := ⟨_, rfl⟩
        have hWg : wr.heap.size ≤ g := by omega
        rw [hgg] at hg
        obtain ⟨W1a, hA⟩ : ∃ x, W1.alloc (.cells #[.int .i64 0, .int .i64 0, .int .i64 0] 40) = x := ⟨_, rfl⟩
        rw [hA] at hg ba
        obtain ⟨⟨d0, d1, d2⟩, ⟨d3, d4, d5⟩, ⟨d6, d7⟩, d8, d9⟩ := err_cells hg (.int .i64 x) (.int .i64 y)
        have hset := err_set hg (.int .i64 x) (.int .i64 y) (.int .i64 z)
        have bs := err_below ba hWg (.int .i64 x) (.int .i64 y) (.int .i64 z)
        obtain ⟨W2, hS⟩ : ∃ v, ((W1a.setCell ⟨g, 0, none⟩ (.int .i64 x)).setCell ⟨g, 1, none⟩ (.int .i64 y)).setCell ⟨g, 2, none⟩ (.int .i64 z) = v := ⟨_, rfl⟩
        rw [hS] at hset bs
        have HBS := hid bs
        have HTT := hid ht
        have HBT := hid hb
        have e0 := row_cell hset 0
        have e1 := row_cell hset 1
        have e2 := row_cell hset 2
        have sW2 := bs.size
        clear bb hb ht HP ba bs hg hset
        cases b with
        | false =>
          have HR := hid (HNO.out _ HMEM.out (by
            cases hq : pE (tC ps j).data.toList with
            | none => rfl
            | some t => have h := HBT.out; rw [hq] at h; cases h))
          have HEM := hid (OwnE.empty W2 (B := w.heap.size) (c := #[]) (by omega) rfl)
          go_wp2
          go_ret2
          rw [HR.out]
          exact ⟨_, rfl, HEM.out.rw rfl R64.nil (Nat.le_refl _), (HBEL.out.trans (HBS.out.mono sbel)).alloc (by omega) _⟩
        | true =>
          have HOW := hid (OwnE.below HO.out HBS.out (Nat.le_refl _))
          go_wp2_with (at_builtin; refine wpList_app3 rfl _ _ _ rfl Tryd.underlying25 w.heap.size _ _ _ (by rfl) (by rfl) HOW.out (by omega) (by omega) ?_; intro v5 W5 o5 b5; obtain ⟨ad5, cap5, hv5⟩ := own_formE o5; subst hv5; have HO5 := hid o5; have HB5 := hid b5.1; have HK5 := hid (b5.2 gr grr (bel_k (n0 := 0) (w0 := w) hb3.out HBS.out)); clear o5 b5)
          go_roundw
          case rel =>
            refine ⟨j + 1, ad5, cap5, L ++ [x, y, z], by go_num, rfl, hlt, by omega, ?_, HO5.out, (HBEL.out.trans (HBS.out.mono sbel)).trans HB5.out, HK5.out⟩
            show _ = _
            rw [HTK.out, pL_snoc, HPL.out]
            cases hq : pE (tC ps j).data.toList with
            | none => have h := HBT.out; rw [hq] at h; cases h
            | some t => rw [HTT.out t hq]
          case measure => simp [intOf]; omega
      · have HX := hid (HV.out j L (by rw [hNN.out]; omega) (HPL.out))
        have HFT := hid (c_FormatErrata (.slice ad j cap) L wr.heap.size wr (Nat.le_refl _) (by have := HLL.out; omega) HRW.out.isI)
        have hexit : ¬ (j : Int) < (N : Int) ∨ ¬ (j : Int) ≤ 60 := by omega
        obtain ⟨T, hT⟩ : ∃ T, FT L = T := ⟨_, rfl⟩
        rw [hT] at HX HFT
        clear hT
        rcases HX.out with ⟨-, -, hTs, hEP⟩ | ⟨hT0, hs0, hEP⟩
        · subst hTs
          have HR := hid hEP
          have t2 : (T.toList == T.toList) = true := by simp
          clear hEP
          rcases hexit with hx | hx
          · go_wp2_with fail
            refine HFT.out.mono ?_
            rintro e W1 ⟨rfl, bb⟩
            have R1 := hid (HRW.out.below bb (Nat.le_refl _))
            have sbb := bb.size
            have B1 := hid (HBEL.out.trans (bb.mono sbel))
            clear bb
            go_wp2
            go_ret2
            rw [HR.out]
            exact ⟨_, rfl, upE R1.out sbb, B1.out⟩
          · by_cases hx2 : (j : Int) < (N : Int)
            · go_wp2_with fail
              refine HFT.out.mono ?_
              rintro e W1 ⟨rfl, bb⟩
              have R1 := hid (HRW.out.below bb (Nat.le_refl _))
              have sbb := bb.size
              have B1 := hid (HBEL.out.trans (bb.mono sbel))
              clear bb
              go_wp2
              go_ret2
              rw [HR.out]
              exact ⟨_, rfl, upE R1.out sbb, B1.out⟩
            · go_wp2_with fail
              refine HFT.out.mono ?_
              rintro e W1 ⟨rfl, bb⟩
              have R1 := hid (HRW.out.below bb (Nat.le_refl _))
              have sbb := bb.size
              have B1 := hid (HBEL.out.trans (bb.mono sbel))
              clear bb
              go_wp2
              go_ret2
              rw [HR.out]
              exact ⟨_, rfl, upE R1.out sbb, B1.out⟩
        · have HR := hid hEP
          have t2 : (T.toList == s.toList) = false := by
            rw [hT0, ByteArray.toList_eq, ByteArray.toList_eq]
            by_cases e : s.data.toList = []
            · exact absurd (by_data (by rw [e])) hs0
            · rw [beq_eq_false_iff_ne]; intro h; exact e h.symm
          clear hEP hT0 hs0
          rcases hexit with hx | hx
          · go_wp2_with fail
            refine HFT.out.mono ?_
            rintro e W1 ⟨rfl, bb⟩
            have sbb := bb.size
            have B1 := hid (HBEL.out.trans (bb.mono sbel))
            have HEM := hid (OwnE.empty W1 (B := w.heap.size) (c := #[]) (by omega) rfl)
            clear bb
            go_wp2
            go_ret2
            rw [HR.out]
            exact ⟨_, rfl, HEM.out.rw rfl R64.nil (Nat.le_refl _), B1.out.alloc (by omega) _⟩
          · by_cases hx2 : (j : Int) < (N : Int)
            · go_wp2_with fail
              refine HFT.out.mono ?_
              rintro e W1 ⟨rfl, bb⟩
              have sbb := bb.size
              have B1 := hid (HBEL.out.trans (bb.mono sbel))
              have HEM := hid (OwnE.empty W1 (B := w.heap.size) (c := #[]) (by omega) rfl)
              clear bb
              go_wp2
              go_ret2
              rw [HR.out]
              exact ⟨_, rfl, HEM.out.rw rfl R64.nil (Nat.le_refl _), B1.out.alloc (by omega) _⟩
            · go_wp2_with fail
              refine HFT.out.mono ?_
              rintro e W1 ⟨rfl, bb⟩
              have sbb := bb.size
              have B1 := hid (HBEL.out.trans (bb.mono sbel))
              have HEM := hid (OwnE.empty W1 (B := w.heap.size) (c := #[]) (by omega) rfl)
              clear bb
              go_wp2
              go_ret2
              rw [HR.out]
              exact ⟨_, rfl, HEM.out.rw rfl R64.nil (Nat.le_refl _), B1.out.alloc (by omega) _⟩
end Go.Proofs.YtlinkeemccnfmaaDoor
