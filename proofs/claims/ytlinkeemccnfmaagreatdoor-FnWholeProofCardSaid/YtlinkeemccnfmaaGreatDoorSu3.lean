/- What is proved here: contracts of spec.SetUp and impl.CapacityOf. -/
import Derived.Test.YtlinkeemccnfmaaGreatDoorSu2
set_option linter.unusedVariables false
set_option linter.unusedSimpArgs false
namespace Go.Proofs.YtlinkeemccnfmaaGreatDoor
open Go.RowKit

theorem eng_chg3 (w : World) (g o : Nat) (v : Value) : Chg g (g + 1) w (w.setCell ⟨g, o, none⟩ v) := (Chg.refl _ _ _).setCell (p := ⟨g, o, none⟩) (Nat.le_refl _) (Nat.lt_succ_self _) v

theorem tC_app_left {cs : List ByteArray} {s : ByteArray} {i : Nat} (h : i < cs.length) : tC (cs ++ [s]) i = tC cs i := by
  unfold tC; rw [List.getD_eq_getElem?_getD, List.getD_eq_getElem?_getD, List.getElem?_append_left h]
theorem tC_app_last {cs : List ByteArray} {s : ByteArray} : tC (cs ++ [s]) cs.length = s := by
  unfold tC; rw [List.getD_eq_getElem?_getD, List.getElem?_append_right (Nat.le_refl _), Nat.sub_self]; rfl
theorem wpList_appT1 {ops : Array Oper} {rest : List Oper} {o : Oper} {a : Act} {Q : Exit → Act → World → Prop} {w : World} {y : ByteArray} (hgd : o.guard = none) (s x : Operand) (T : TypeId)
    (ho : o.op = .call { callee := .builtin .append, args := #[s, x], argTypes := #[T, T] }) (hT : Tryz.prog.underlying T = some (.slice 9))
    (B : Nat) (v : Value) (cs : List ByteArray) (hs : a.eval s = v) (hx : a.eval x = .slice (some ⟨w.heap.size, 0, none⟩) 1 1) (hown : OwnT w B v cs) (hn : cs.length ≤ 1000000) (hy : y.size ≤ maxLen) (hbase : B ≤ w.heap.size)
    (h : ∀ v' w', OwnT w' B v' (cs ++ [y]) → Below B w w' → wpList Tryz.prog ops Q rest (a.put o.dst v') w') :
    wpList Tryz.prog ops Q (o :: rest) a (w.alloc (.cells #[.string y] 9)) := by
  obtain ⟨i0, hi, hz0, hz1, hz2⟩ := info_parts Tryz.infoStr
  refine wpList_append_own _ hgd s x T ho B 9 i0 _ 1 16 hT hi hz0 hz1 hz2 rfl (by omega) v cs.length _ hs (World.ownsRow.alloc hown.1 _) ⟨w.heap.size, 0, none⟩ 1 1 [.string y] hx (by simp) ?_ (by simp [Value.oneCell']) (by unfold maxLen; omega) (by omega) (by simp; omega) ?_
  · intro j u hu
    have hadd : (⟨w.heap.size, 0, none⟩ : Addr).add j = ⟨w.heap.size, j, none⟩ := by unfold Addr.add; split <;> simp_all
    rw [hadd, World.cell?_alloc_at _ _ _ _ rfl]; simpa using hu
  · intro v' w' hown' hg _
    refine h v' w' ⟨by simpa using hown', fun i hi => ?_⟩ (((Below.refl _ _).alloc hbase _).grown hg (by simp; omega) (fun k hk => (World.ownsRow.lt hown.1 k hk).1))
    rw [List.length_append, List.length_singleton] at hi
    by_cases e : i < cs.length
    · rw [tC_app_left e]; exact hown.2 i e
    · obtain rfl : i = cs.length := by omega
      rw [tC_app_last]; exact hy


def cK (p : List Int) (n wd : Int) (j : Nat) : List ByteArray := (List.range j).map fun k => cofS (el (shQ p n) k) wd
theorem cK_len (p : List Int) (n wd : Int) (j : Nat) : (cK p n wd j).length = j := by simp [cK]
theorem cK_succ (p : List Int) (n wd : Int) (j : Nat) : cK p n wd (j + 1) = cK p n wd j ++ [cofS (el (shQ p n) j) wd] := by simp [cK, List.range_succ]
theorem suC_cK {p : List Int} {n wd : Int} (h : suB p n wd = true) : suC p n wd = cK p n wd p.length := by
  rw [suC_yes h, cK]
  conv => lhs; unfold shQ
  rw [List.map_map]
  refine List.map_congr_left fun k hk => ?_
  rw [List.mem_range] at hk
  show cofS (evF (p.drop k) n) wd = _
  rw [shQ_el hk]

set_option maxHeartbeats 800000 in
theorem c_sSetUp (w : World) (v : Value) (p : List Int) (hv : IsI w w.heap.size v p) (n wd : Int) :
    Calls Tryz.prog 6 #[v, .int .i64 n, .int .i64 wd] w (RetEN w (suC p n wd) (suB p n wd)) := by
  have b1 := RetRow.e1 w (.cells #[.slice none 0 0] 28)
  have g1 := eng_alloc w (.slice none 0 0) 28
  have hs1 : (w.alloc (.cells #[.slice none 0 0] 28)).heap.size = w.heap.size + 1 := by simp
  have hv1 := (hv.below b1 (Nat.le_refl _)).up b1.size
  clear hv
  go_enter Tryz.func6, Tryz.ntmps6
  go_wp2_with fail
  refine (c_sShiftPoly _ _ p hv1 n).mono ?_
  rintro e w2 ⟨v2, rfl, r2, b2⟩
  have s2 := b2.size
  have g2 := (b2.block w.heap.size (by omega)).trans g1
  have b := b1.trans (b2.mono b1.size)
  have hw2 : w.heap.size < w2.heap.size := by omega
  clear b1 b2 g1 hv1 s2 hs1
  by_cases hok : shOk p n = true
  · have HOK := hid hok
    rw [hok]
    rw [shR_yes hok] at r2
    have hI := r2.isI
    clear hok r2
    obtain ⟨m, hm⟩ : ∃ m, p.length = m := ⟨_, rfl⟩
    have HM := hid hm
    have hPV : PV p = true := by have := HOK.out; unfold shOk at this; rw [Bool.and_eq_true] at this; exact this.1
    obtain ⟨m0, m1, -⟩ := PV_iff.1 hPV
    rw [hm] at m0 m1
    obtain ⟨a2, cap2, rfl, hmm, -, hc⟩ := hI
    rw [shQ_len, hm] at hmm hc
    rw [shQ_len, hm]
    unfold maxLen at hmm
    obtain ⟨hmm1, hmm2, -⟩ := hmm
    clear hm hPV
    by_cases hw : inB wd 1 12 = true
    · have HG2 := hid g2
      have HB := hid b
      clear g2 b
      have ge := eng_alloc w2 (.slice none 0 0) 28
      have ce := row_cell ge 0
      have fe := row_free ge 0
      have HGE := hid ge
      clear ge
      go_wp2_with fail
      refine (c_l1Width _ _).mono ?_
      rw [hw]
      rintro e wx ⟨rfl, rfl⟩
      clear hw
      go_wp2
      go_loopw [11] (fun i wr => ∃ (j : Nat) (u : Value), j ≤ m ∧ i = .int .i64 j ∧ Hid (wr.heap[w2.heap.size]? = some (.cells #[u] 28 (0, 0))) ∧ Hid (OwnT wr (w2.heap.size + 1) u (cK p n wd j)) ∧ Hid (∀ k, k < j → cofB (el (shQ p n) k) wd = true) ∧ Below w2.heap.size w2 wr) (fun i _ => m - (intOf i).toNat)
      case atStart => exact ⟨0, .slice none 0 0, Nat.zero_le _, rfl, HGE, OwnT.nil _ _, fun k hk => by omega, (Below.refl _ _).alloc (Nat.le_refl _) _⟩
      case round =>
        clear ce fe
        obtain ⟨j, u, hj, rfl, HG, HO, HR, hbel⟩ := hrel
        have hgl := (Array.getElem?_eq_some_iff.1 HG.out).1
        have hbs := hbel.size
        have HG3 := hid ((hbel.block w.heap.size hw2).trans HG2.out)
        have HB3 := hid (HB.out.trans (hbel.mono (by omega)))
        by_cases hlt : j < m
        · obtain ⟨bb, off, rfl, hb, hcell⟩ := hc j hlt
          have g0 := hcell j hlt
          replace g0 := (hbel.cell (p := ⟨bb, off + j, none⟩) hb).trans g0
          clear hc hcell
          go_wp2_with fail
          refine (c_sColumnOf _ _ _).mono ?_
          rintro e w5 ⟨rfl, b5⟩
          have s5 := b5.size
          have HG5 := hid ((b5.block w2.heap.size hgl).trans HG.out)
          have HE5 := hid ((b5.block w.heap.size (by omega)).trans HG3.out)
          have HO5 := hid (HO.out.below b5 (Nat.le_refl _))
          have hbel5 := hbel.trans (b5.mono hbs)
          have HB5 := hid (HB3.out.trans (b5.mono (by omega)))
          by_cases hf : cofB (el (shQ p n) j) wd = true
          · have HF := hid hf
            rw [hf]
            have HSZ := hid (cofS_size (n := el (shQ p n) j) (wd := wd))
            have HC := hid (cK_succ p n wd j)
            have HL := hid (cK_len p n wd j)
            generalize cofS (el (shQ p n) j) wd = S at *
            obtain ⟨cs, hcs⟩ : ∃ cs, cK p n wd j = cs := ⟨_, rfl⟩
            rw [hcs] at HC HL HO5
            clear hcs hf g0 hbel b5 HO
            have hq1 : cs.length ≤ 1000000 := by rw [HL.out]; omega
            have hq2 : S.size ≤ maxLen := by have := HSZ.out; unfold maxLen; omega
            have hq3 : w2.heap.size + 1 ≤ w5.heap.size := by omega
            have ho5 := HO5.out
            have c5 := row_cell HG5.out 0
            have c5a := (RetRow.e1 w5 (.cells #[.string S] 9)).cell (p := ⟨w2.heap.size, 0, none⟩) (show w2.heap.size < w5.heap.size by omega)
            replace c5a := c5a.trans c5
            obtain ⟨BB, hBB⟩ : ∃ B, w2.heap.size + 1 = B := ⟨_, rfl⟩
            have HBB := hid hBB
            rw [hBB] at ho5 hq3
            clear hBB
            go_wp2_with (at_builtin; refine wpList_appT1 rfl _ _ _ rfl Tryz.underlying26 BB _ cs rfl rfl ho5 hq1 hq2 hq3 ?_; intro v7 w7 ho7 hb7; obtain ⟨g7, p7, n7, hn7, hv7⟩ := ho7.form1 (by simp); subst hv7; clear hn7; have hg7 := (hb7.block w2.heap.size (Nat.lt_of_lt_of_eq (Nat.lt_succ_self _) HBB.out)).trans HG5.out; have c7 := row_cell hg7 0; have f7 := row_free hg7 0; have HG7 := hid (row_set hg7 0 (.slice (some ⟨g7, 0, none⟩) n7 p7)); have HO7 := hid (ho7.chg (eng_chg3 w7 w2.heap.size 0 (.slice (some ⟨g7, 0, none⟩) n7 p7)) (Nat.le_of_eq HBB.out)); have HB7 := hid ((hbel5.trans (hb7.mono (Nat.le_trans (Nat.le_succ _) (Nat.le_of_eq HBB.out)))).setCell (p := ⟨w2.heap.size, 0, none⟩) (Nat.le_refl _) (.slice (some ⟨g7, 0, none⟩) n7 p7)); clear hg7 ho7 hb7)
            go_roundw
            case rel =>
              refine ⟨j + 1, _, by omega, by go_num, HG7, by show OwnT _ _ _ _; rw [HC.out, HBB.out]; exact HO7.out, fun k hk => ?_, HB7.out⟩
              by_cases e : k = j
              · subst e; exact HF.out
              · exact HR.out k (by omega)
            case measure => simp [intOf]; omega
          · have hf' : cofB (el (shQ p n) j) wd = false := by simpa using hf
            have HN := hid (suB_at (p := p) (n := n) (wd := wd) (k := j) (by rw [HM.out]; exact hlt) hf')
            rw [hf']
            generalize cofS (el (shQ p n) j) wd = S
            clear hf g0 hbel b5
            have c6 := row_cell HE5.out 0
            have f6 := row_free HE5.out 0
            have HF6 := hid (row_set HE5.out 0 (.slice none 0 0))
            go_wp2
            (try simp only [Exit.inBlock, Exit.then])
            refine bodyPost_engB rfl rfl (by rfl) (by rfl) HF6.out ?_
            exact retEN_no (suC_no HN.out) HN.out (HB5.out.setCell (p := ⟨w.heap.size, 0, none⟩) (Nat.le_refl _) _)
        · obtain rfl : j = m := by omega
          have HY := hid (show suB p n wd = true from suB_iff.2 ⟨HOK.out, fun k hk => HR.out k (by rw [← HM.out]; exact hk)⟩)
          have HCK := hid (suC_cK HY.out)
          have hL := suC_len HY.out
          rw [HM.out] at HCK hL
          have HO2 := hid (show OwnT wr (w2.heap.size + 1) u (suC p n wd) by rw [HCK.out]; exact HO.out)
          have hrw := HO2.out.rwT (by omega) (Nat.le_refl _)
          obtain ⟨gu, cu, rfl⟩ := hrw.form
          have HI := hid hrw.isT
          have c6 := row_cell HG3.out 0
          have f6 := row_free HG3.out 0
          have ce := row_cell HG.out 0
          have HF6 := hid (row_set HG3.out 0 (.slice (some ⟨gu, 0, none⟩) (suC p n wd).length cu))
          clear hc hrw hL
          go_wp2
          (try simp only [Exit.inBlock, Exit.then])
          refine bodyPost_engB rfl rfl (by rfl) (by rfl) HF6.out ?_
          exact ⟨some ⟨gu, 0, none⟩, cu, by rw [HY.out]; rfl, (HI.out.setNS (eng_ns HG3.out)).up (by simp), HB3.out.setCell (p := ⟨w.heap.size, 0, none⟩) (Nat.le_refl _) _⟩
    · have hw' : inB wd 1 12 = false := by simpa using hw
      have HN := hid (suB_at (p := p) (n := n) (wd := wd) (k := 0) (by rw [HM.out]; omega) (cofB_bad hw'))
      clear hw hc
      have c0 := row_cell g2 0
      have f0 := row_free g2 0
      have HF := hid (row_set g2 0 (.slice none 0 0))
      clear g2
      go_wp2_with fail
      refine (c_l1Width _ _).mono ?_
      rw [hw']
      rintro e wx ⟨rfl, rfl⟩
      go_wp2
      (try simp only [Exit.inBlock, Exit.then])
      refine bodyPost_engB rfl rfl (by rfl) (by rfl) HF.out ?_
      exact retEN_no (suC_no HN.out) HN.out (b.setCell (p := ⟨w.heap.size, 0, none⟩) (Nat.le_refl _) _)
  · have hok' : shOk p n = false := by simpa using hok
    have HN := hid (suB_no (wd := wd) hok')
    rw [hok']
    clear hok r2
    have c0 := row_cell g2 0
    have f0 := row_free g2 0
    have HF := hid (row_set g2 0 (.slice none 0 0))
    clear g2
    go_wp2
    (try simp only [Exit.inBlock, Exit.then])
    refine bodyPost_engB rfl rfl (by rfl) (by rfl) HF.out ?_
    exact retEN_no (suC_no HN.out) HN.out (b.setCell (p := ⟨w.heap.size, 0, none⟩) (Nat.le_refl _) _)
end Go.Proofs.YtlinkeemccnfmaaGreatDoor
