/- What is proved here: a text cut at its spaces, and an engine parsed, as the reference does it. -/
import Derived.Test.YtkaanlldjkflaaaDoorEt2
set_option linter.unusedVariables false
set_option linter.unusedSimpArgs false
set_option maxRecDepth 100000
namespace Go.Proofs.YtkaanlldjkflaaaDoor
open Go.RowKit

/-- Where the walk of the cutting stands: the pieces so far, and the one that is open from f on, at place j. -/
def CutAt (s : ByteArray) (P : List ByteArray) (f j : Nat) : Prop :=
  cuts s.data.toList = P.map (·.data.toList) ++ glue ((s.data.toList.drop f).take (j - f)) (cuts (s.data.toList.drop j))
theorem cut0 (s : ByteArray) : CutAt s [] 0 0 := by
  rw [CutAt]; simp [glue_nil (cuts_ne _)]
theorem ext_data (s : ByteArray) (f j : Nat) : (s.extract f j).data.toList = (s.data.toList.drop f).take (j - f) := by
  rw [ByteArray.data_extract, Array.toList_extract, List.extract_eq_take_drop]
theorem cut_drop {s : ByteArray} {j : Nat} (h : j < s.size) : s.data.toList.drop j = (s[j]'h) :: s.data.toList.drop (j + 1) := by
  rw [List.drop_eq_getElem_cons (by rw [dt_len]; exact h)]
  rfl
theorem cut_step {s : ByteArray} {P : List ByteArray} {f j : Nat} (hf : f ≤ j) (hj : j < s.size) (hb : (s[j]'hj) ≠ 32) (h : CutAt s P f j) : CutAt s P f (j + 1) := by
  rw [CutAt] at h ⊢
  rw [h, cut_drop hj, cuts, if_neg hb, glue_glue _ _ (cuts_ne _)]
  congr 2
  have e : j + 1 - f = (j - f) + 1 := by omega
  rw [e, List.take_add_one, List.getElem?_drop, show f + (j - f) = j by omega, List.getElem?_eq_getElem (by rw [dt_len]; exact hj)]
  rfl
theorem cut_hit {s : ByteArray} {P : List ByteArray} {f j : Nat} (hf : f ≤ j) (hj : j < s.size) (hb : (s[j]'hj) = 32) (h : CutAt s P f j) : CutAt s (P ++ [s.extract f j]) (j + 1) (j + 1) := by
  rw [CutAt] at h ⊢
  rw [h, cut_drop hj, cuts, if_pos hb, Nat.sub_self, List.take_zero, glue_nil (cuts_ne _), List.map_append, List.map_singleton, ext_data]
  simp [glue]
theorem cut_end {s : ByteArray} {P : List ByteArray} {f : Nat} (h : CutAt s P f s.size) : P ++ [s.extract f s.size] = cB s := by
  apply data_inj
  rw [cB_data, h, List.map_append, List.map_singleton, ext_data]
  rw [show s.data.toList.drop s.size = [] from List.drop_eq_nil_of_le (by rw [dt_len]; exact Nat.le_refl _)]
  simp [cuts, glue]
set_option maxHeartbeats 800000 in
theorem c_l9Cut (s : ByteArray) (w : World) (hs : s.size ≤ 1000) :
    Calls Tryd.prog 22 #[.string s, .int .u8 32] w fun e w' => ∃ v, e = .returned v ∧ RwT w' w.heap.size w'.heap.size v (cB s) ∧ Below w.heap.size w w' := by
  go_enter Tryd.func22, Tryd.ntmps22
  go_wp2
  go_loopw [5, 6, 7] (fun x y z wr => ∃ (j f : Nat) (P : List ByteArray) (v : Value), x = v ∧ y = .int .i64 f ∧ z = .int .i64 j ∧ P.length ≤ j ∧ f ≤ j ∧ OwnT wr w.heap.size v P ∧ Below w.heap.size w wr ∧ ((j ≤ s.size ∧ Hid (CutAt s P f j)) ∨ (j = s.size + 1 ∧ Hid (P = cB s)))) (fun _ _ z _ => s.size + 1 - (intOf z).toNat)
  case atStart => exact ⟨0, 0, [], _, rfl, rfl, rfl, Nat.le_refl _, Nat.le_refl _, OwnT.empty w (Nat.le_refl _) rfl, RetRow.e1 _ _, .inl ⟨Nat.zero_le _, cut0 s⟩⟩
  case round =>
    obtain ⟨j, f, P, v, rfl, rfl, rfl, hP, hf, ow, hbel, hcase⟩ := hrel
    rcases hcase with ⟨hj, HC⟩ | ⟨hj, HC⟩
    · have q0 : (0 : Int) ≤ (f : Int) := by omega
      have q1 : (f : Int) ≤ (j : Int) := by omega
      have q2 : (j : Int) ≤ (s.size : Int) := by omega
      have hsz : (s.extract f j).size ≤ maxLen := by rw [ByteArray.size_extract]; unfold maxLen; omega
      by_cases he : j = s.size
      · have t1 : ((j : Int) == (s.size : Int)) = true := by rw [beq_iff_eq]; omega
        have HE := hid (show P ++ [s.extract f j] = cB s by rw [he]; rw [he] at HC; exact cut_end HC.out)
        have HJ := hid he
        clear he
        go_wp2_with (at_builtin; refine wpList_appT1 rfl _ _ _ rfl Tryd.underlying23 w.heap.size _ P rfl rfl ow (by omega) hsz hbel.size ?_; intro v1 w1 o1 b1)
        go_roundw
        case rel => exact ⟨j + 1, j + 1, _, v1, rfl, by go_num, by go_num, by rw [List.length_append, List.length_singleton]; omega, Nat.le_refl _, o1, hbel.trans b1, .inr ⟨by rw [HJ.out], HE.out⟩⟩
        case measure => simp [intOf]; omega
      · have t1 : ((j : Int) == (s.size : Int)) = false := by rw [beq_eq_false_iff_ne]; omega
        have hlt : j < s.size := by omega
        clear he
        by_cases hb : (s[j]'hlt) = 32
        · have t2 : (((s[j]'hlt).toNat : Int) == 32) = true := by rw [hb]; rfl
          have HE := hid (cut_hit hf hlt hb HC.out)
          clear hb
          go_wp2_with (at_builtin; refine wpList_appT1 rfl _ _ _ rfl Tryd.underlying23 w.heap.size _ P rfl rfl ow (by omega) hsz hbel.size ?_; intro v1 w1 o1 b1)
          go_roundw
          case rel => exact ⟨j + 1, j + 1, _, v1, rfl, by go_num, by go_num, by rw [List.length_append, List.length_singleton]; omega, Nat.le_refl _, o1, hbel.trans b1, .inl ⟨by omega, HE.out⟩⟩
          case measure => simp [intOf]; omega
        · have t2 : (((s[j]'hlt).toNat : Int) == 32) = false := by
            rw [beq_eq_false_iff_ne]
            intro h
            exact hb (UInt8.toNat_inj.1 (by show _ = 32; omega))
          have HE := hid (cut_step hf hlt hb HC.out)
          clear hb
          go_wp2
          go_roundw
          case rel => exact ⟨j + 1, f, P, _, rfl, rfl, by go_num, by omega, by omega, ow, hbel, .inl ⟨by omega, HE.out⟩⟩
          case measure => simp [intOf]; omega
    · have hn : ¬ (j : Int) ≤ (s.size : Int) := by omega
      have hl := cB_len s
      go_wp2
      go_ret
      exact ⟨_, rfl, by rw [← HC.out]; exact ow.rwT (by rw [HC.out]; omega) (Nat.le_refl _), hbel⟩
theorem str_empty : (⟨#[]⟩ : ByteArray).toList.isEmpty = true := by rw [ByteArray.toList_eq]; rfl
theorem str_some {a : ByteArray} (h : 0 < a.size) : a.toList.isEmpty = false := by
  rw [ByteArray.toList_eq]
  cases a with
  | mk d =>
    cases hd : d.toList with
    | nil => rw [show d = #[] from Array.toList_inj.1 hd] at h; cases h
    | cons x l => simp [hd]
theorem ba_empty {a : ByteArray} (h : ¬ 0 < a.size) : a = ⟨#[]⟩ := by
  apply by_data
  have : a.data.toList.length = 0 := by rw [dt_len]; omega
  rw [List.length_eq_zero_iff] at this
  exact this
set_option maxHeartbeats 800000 in
theorem c_sParseEngine (s : ByteArray) (w : World) (hs : s.size ≤ 1000) :
    Calls Tryd.prog 11 #[.string s] w (RetP w s) := by
  have b1 := RetRow.e1 w (.cells #[.slice none 0 0] 25)
  have g1 := eng_alloc w (.slice none 0 0) 25
  have hs1 : (w.alloc (.cells #[.slice none 0 0] 25)).heap.size = w.heap.size + 1 := by simp
  have hl := (cB_len s).2
  go_enter Tryd.func11, Tryd.ntmps11
  go_wp2_with fail
  refine (c_l9Cut s _ hs).mono ?_
  rintro e w3 ⟨v, rfl, r, b2⟩
  obtain ⟨g, cap, rfl⟩ := r.form
  have HI := hid r.isT
  have HB3 := hid (b1.trans (b2.mono b1.size))
  have HG3 := hid ((b2.block w.heap.size (by omega)).trans g1)
  have hs2 := b2.size
  clear b1 b2 g1 r
  have b4 := RetRow.e1 w3 (.cells #[.slice (some ⟨g, 0, none⟩) (cB s).length cap] 25)
  have g4 := eng_cell w3 (.slice (some ⟨g, 0, none⟩) (cB s).length cap) 25
  have HI4 := hid ((HI.out.below b4 (Nat.le_refl _)).up (B' := (w3.alloc (.cells #[.slice (some ⟨g, 0, none⟩) (cB s).length cap] 25)).heap.size) b4.size)
  have HB4 := hid (HB3.out.trans (b4.mono HB3.out.size))
  have HG4 := hid ((b4.block w.heap.size (by omega)).trans HG3.out)
  clear b4 HG3
  go_wp2_with fail
  refine (c_sFormatEngine _ (cB s) _ (by omega) HI4.out).mono ?_
  rintro e w5 ⟨rfl, b5⟩
  have g5 := (b5.cell (p := ⟨w3.heap.size, 0, none⟩) (by simp)).trans g4
  have HI5 := hid ((HI4.out.below b5 (Nat.le_refl _)).up b5.size)
  have HB5 := hid (HB4.out.trans (b5.mono HB4.out.size))
  have HG5 := hid ((b5.block w.heap.size (by simp; omega)).trans HG4.out)
  have c5 := row_cell HG5.out 0
  have f5 := row_free HG5.out 0
  clear b5 g4
  cases he : EGV (cB s) with
  | true =>
    have HP := hid (show PE s = cB s by rw [PE, if_pos he])
    have HE := hid he
    rw [FE_yes he, JB_cB]
    have hpos := (JB_size he).1
    rw [JB_cB] at hpos
    have t2 := str_some hpos
    clear he
    have HF := hid (row_set HG5.out 0 (.slice (some ⟨g, 0, none⟩) (cB s).length cap))
    go_wp2
    (try simp only [Exit.inBlock, Exit.then])
    refine bodyPost_engB rfl rfl (by rfl) (by rfl) HF.out ?_
    refine ⟨some ⟨g, 0, none⟩, cap, by rw [HP.out, HE.out]; rfl, ?_, HB5.out.setCell (p := ⟨w.heap.size, 0, none⟩) (Nat.le_refl _) _⟩
    rw [HP.out]
    exact (HI5.out.setNS (engNS HG5.out)).up (by simp)
  | false =>
    have HP := hid (show PE s = [] by rw [PE, he]; rfl)
    have HE := hid he
    rw [FE_no he]
    clear he
    have HF := hid (row_set HG5.out 0 (.slice none 0 0))
    by_cases h0 : 0 < s.size
    · have t1 := str_some h0
      clear h0
      go_wp2
      (try simp only [Exit.inBlock, Exit.then])
      refine bodyPost_engB rfl rfl (by rfl) (by rfl) HF.out ?_
      refine ⟨none, 0, by rw [HP.out, HE.out]; rfl, ?_, HB5.out.setCell (p := ⟨w.heap.size, 0, none⟩) (Nat.le_refl _) _⟩
      rw [HP.out]
      exact isT_none _ _
    · have t1 : s.toList.isEmpty = true := by rw [ba_empty h0]; exact str_empty
      clear h0
      go_wp2
      (try simp only [Exit.inBlock, Exit.then])
      refine bodyPost_engB rfl rfl (by rfl) (by rfl) HF.out ?_
      refine ⟨none, 0, by rw [HP.out, HE.out]; rfl, ?_, HB5.out.setCell (p := ⟨w.heap.size, 0, none⟩) (Nat.le_refl _) _⟩
      rw [HP.out]
      exact isT_none _ _
end Go.Proofs.YtkaanlldjkflaaaDoor
