/- What is proved here: contracts of impl.SetUp, spec.SetUp and impl.CapacityOf. -/
import Derived.Test.YtlinkeemccnfmaaGreatDoorSu1
import Derived.Test.YtlinkeemccnfmaaGreatDoorSlM
set_option linter.unusedVariables false
set_option linter.unusedSimpArgs false
namespace Go.Proofs.YtlinkeemccnfmaaGreatDoor
open Go.RowKit

theorem isT_nil (w : World) (B : Nat) {cs : List ByteArray} (h : cs = []) : IsT w B (.slice none cs.length 0) cs := by
  subst h; exact ⟨none, 0, rfl, ⟨Nat.le_refl _, Nat.zero_le _, fun _ => rfl⟩, fun i hi => absurd hi (Nat.not_lt_zero _)⟩
/-- What is left by a call that hands back an engine for reading, and a bool. -/
def RetEN (w : World) (cs : List ByteArray) (ok : Bool) (e : Ending) (w' : World) : Prop :=
  ∃ (a : Option Addr) (cap : Nat), e = .returned (.tuple #[.agg #[.slice a cs.length cap], .bool ok]) ∧ IsT w' w'.heap.size (.slice a cs.length cap) cs ∧ Below w.heap.size w w'
theorem retEN_no {w w' : World} {cs : List ByteArray} {ok : Bool} (h : cs = []) (h2 : ok = false) (hb : Below w.heap.size w w') : RetEN w cs ok (.returned (.tuple #[.agg #[.slice none 0 0], .bool false])) w' :=
  ⟨none, 0, by rw [h, h2]; rfl, isT_nil _ _ h, hb⟩

set_option maxHeartbeats 800000 in
theorem c_iSetUp (w : World) (v : Value) (p : List Int) (hv : IsI w w.heap.size v p) (n wd : Int) :
    Calls Tryz.prog 5 #[v, .int .i64 n, .int .i64 wd] w (RetEN w (suC p n wd) (suB p n wd)) := by
  have b1 := RetRow.e1 w (.cells #[.slice none 0 0] 28)
  have g1 := eng_alloc w (.slice none 0 0) 28
  have hs1 : (w.alloc (.cells #[.slice none 0 0] 28)).heap.size = w.heap.size + 1 := by simp
  have hv1 := (hv.below b1 (Nat.le_refl _)).up b1.size
  clear hv
  go_enter Tryz.func5, Tryz.ntmps5
  go_wp2_with fail
  refine (c_iShiftPoly _ _ p hv1 n).mono ?_
  rintro e w2 ⟨v2, rfl, r2, b2⟩
  have s2 := b2.size
  have g2 := (b2.block w.heap.size (by omega)).trans g1
  have b := b1.trans (b2.mono b1.size)
  have hw2 : w.heap.size < w2.heap.size := by omega
  clear b1 b2 g1 hv1 s2 hs1
  by_cases hok : shOk p n = true
  · have HOK := hid hok
    rw [hok]
    rw [shR_yes hok] at r2
    have hI := r2.isI
    clear hok r2
    obtain ⟨m, hm⟩ : ∃ m, p.length = m := ⟨_, rfl⟩
    have HM := hid hm
    have hPV : PV p = true := by have := HOK.out; unfold shOk at this; rw [Bool.and_eq_true] at this; exact this.1
    obtain ⟨m0, m1, -⟩ := PV_iff.1 hPV
    rw [hm] at m0 m1
    obtain ⟨a2, cap2, rfl, hmm, -, hc⟩ := hI
    rw [shQ_len, hm] at hmm hc
    rw [shQ_len, hm]
    unfold maxLen at hmm
    obtain ⟨hmm1, hmm2, -⟩ := hmm
    have hmk := mk_strs m (by omega)
    have HMS := hid (show (madeCells #[Value.string ⟨#[]⟩] m).size = m by rw [size_madeCells] <;> rfl)
    generalize madeCells #[Value.string ⟨#[]⟩] m = mc at *
    clear hm hPV
    have HG2 := hid g2
    have HB := hid b
    clear g2 b
    go_wp2
    go_loopw [27] (fun i wr => ∃ (j : Nat) (cur : Array Value), j ≤ m ∧ i = .int .i64 j ∧ Hid (wr.heap[w2.heap.size]? = some (.cells cur 9 (0, 0))) ∧ Hid (cur.size = m) ∧ Hid (∀ k, k < j → cur[k]? = some (.string (cofS (el (shQ p n) k) wd)) ∧ cofB (el (shQ p n) k) wd = true) ∧ Below w2.heap.size w2 wr) (fun i _ => m - (intOf i).toNat)
    case atStart => exact ⟨0, mc, Nat.zero_le _, rfl, heap_alloc_new w2 _, HMS, fun k hk => by omega, RetRow.e1 _ _⟩
    case round =>
      obtain ⟨j, cur, hj, rfl, HG, HS, HR, hbel⟩ := hrel
      clear hmk
      have hgl := (Array.getElem?_eq_some_iff.1 HG.out).1
      have hbs := hbel.size
      have HG3 := hid ((hbel.block w.heap.size hw2).trans HG2.out)
      have HB3 := hid (HB.out.trans (hbel.mono (by omega)))
      by_cases hlt : j < m
      · obtain ⟨bb, off, rfl, hb, hcell⟩ := hc j hlt
        have g0 := hcell j hlt
        replace g0 := (hbel.cell (p := ⟨bb, off + j, none⟩) hb).trans g0
        have hs3 : j < cur.size := by rw [HS.out]; omega
        clear hc hcell
        go_wp2_with fail
        refine (c_iColumnOf _ _ _).mono ?_
        rintro e w5 ⟨rfl, b5⟩
        have HG5 := hid ((b5.block w2.heap.size hgl).trans HG.out)
        have HE5 := hid ((b5.block w.heap.size (by omega)).trans HG3.out)
        have s5 := b5.size
        have hbel5 := hbel.trans (b5.mono hbs)
        have HB5 := hid (HB3.out.trans (b5.mono (by omega)))
        have c0 : w5.cell? ⟨w2.heap.size, j, none⟩ = some (cur[j]'hs3) := by rw [row_cell HG5.out, Array.getElem?_eq_getElem hs3]
        have f0 := row_free HG5.out j
        by_cases hf : cofB (el (shQ p n) j) wd = true
        · have HF := hid hf
          rw [hf]
          clear hf g0 hbel b5
          go_wp2
          go_roundw
          case rel =>
            refine ⟨j + 1, _, by omega, by go_num, row_set HG5.out _ _, by show _ = _; simpa using HS.out, fun k hk => ?_, hbel5.setCell (p := ⟨w2.heap.size, j, none⟩) (Nat.le_refl _) _⟩
            by_cases e : k = j
            · subst e; rw [Array.getElem?_setIfInBounds, if_pos rfl, if_pos hs3]; exact ⟨rfl, HF.out⟩
            · rw [Array.getElem?_setIfInBounds, if_neg (by omega)]; exact HR.out k (by omega)
          case measure => simp [intOf]; omega
        · have hf' : cofB (el (shQ p n) j) wd = false := by simpa using hf
          have HN := hid (suB_at (p := p) (n := n) (wd := wd) (k := j) (by rw [HM.out]; exact hlt) hf')
          rw [hf']
          generalize cofS (el (shQ p n) j) wd = S
          clear hf g0 hbel b5
          have HE6 := (Below.heap_setCell w5 ⟨w2.heap.size, j, none⟩ (.string S) w.heap.size (show w.heap.size ≠ w2.heap.size by omega)).trans HE5.out
          have c6 := row_cell HE6 0
          have f6 := row_free HE6 0
          have HF6 := hid (row_set HE6 0 (.slice none 0 0))
          clear HE6
          go_wp2
          (try simp only [Exit.inBlock, Exit.then])
          refine bodyPost_engB rfl rfl (by rfl) (by rfl) HF6.out ?_
          exact retEN_no (suC_no HN.out) HN.out ((HB5.out.setCell (p := ⟨w2.heap.size, j, none⟩) (show w.heap.size ≤ w2.heap.size by omega) _).setCell (p := ⟨w.heap.size, 0, none⟩) (Nat.le_refl _) _)
      · obtain rfl : j = m := by omega
        have HY := hid (show suB p n wd = true from suB_iff.2 ⟨HOK.out, fun k hk => (HR.out k (by rw [← HM.out]; exact hk)).2⟩)
        have c6 := row_cell HG3.out 0
        have f6 := row_free HG3.out 0
        have HF6 := hid (row_set HG3.out 0 (.slice (some ⟨w2.heap.size, 0, none⟩) j j))
        clear hc
        go_wp2
        (try simp only [Exit.inBlock, Exit.then])
        refine bodyPost_engB rfl rfl (by rfl) (by rfl) HF6.out ?_
        have hL := suC_len HY.out
        rw [HM.out] at hL
        refine ⟨some ⟨w2.heap.size, 0, none⟩, j, by rw [hL, HY.out]; rfl, ?_, HB3.out.setCell (p := ⟨w.heap.size, 0, none⟩) (Nat.le_refl _) _⟩
        have hI : IsT wr wr.heap.size (.slice (some ⟨w2.heap.size, 0, none⟩) (suC p n wd).length j) (suC p n wd) :=
          ⟨_, j, rfl, ⟨by omega, by unfold maxLen; omega, fun h => by cases h⟩, fun i hi => ⟨w2.heap.size, 0, rfl, hgl, by
            rw [Nat.zero_add, row_cell HG.out, (HR.out i (by omega)).1, suC_at HY.out (by rw [HM.out]; omega)], by
            rw [suC_at HY.out (by rw [HM.out]; omega)]; have := cofS_size (n := el (shQ p n) i) (wd := wd); unfold maxLen; omega⟩⟩
        exact (hI.setNS (eng_ns HG3.out)).up (by simp)
  · have hok' : shOk p n = false := by simpa using hok
    have HN := hid (suB_no (wd := wd) hok')
    rw [hok']
    clear hok r2
    have c0 := row_cell g2 0
    have f0 := row_free g2 0
    have HF := hid (row_set g2 0 (.slice none 0 0))
    clear g2
    go_wp2
    (try simp only [Exit.inBlock, Exit.then])
    refine bodyPost_engB rfl rfl (by rfl) (by rfl) HF.out ?_
    exact retEN_no (suC_no HN.out) HN.out (b.setCell (p := ⟨w.heap.size, 0, none⟩) (Nat.le_refl _) _)
end Go.Proofs.YtlinkeemccnfmaaGreatDoor
