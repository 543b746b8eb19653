/- What is proved here: a text cut at its semicolons, as the reference does it. -/
import Derived.Test.YtlinkeemccnfmaaDoorStT
import Derived.Test.YtlinkeemccnfmaaDoorCtM
set_option linter.unusedVariables false
set_option linter.unusedSimpArgs false
set_option maxRecDepth 100000
namespace Go.Proofs.YtlinkeemccnfmaaDoor
open Go.RowKit

/-- Where the walk of the cutting stands: the pieces so far, and the one that is open from f on, at place j. -/
def CutAt (s : ByteArray) (P : List ByteArray) (f j : Nat) : Prop :=
  cuts s.data.toList = P.map (·.data.toList) ++ glue ((s.data.toList.drop f).take (j - f)) (cuts (s.data.toList.drop j))
theorem cut0 (s : ByteArray) : CutAt s [] 0 0 := by
  rw [CutAt]; simp [glue_nil (cuts_ne _)]
theorem ext_data (s : ByteArray) (f j : Nat) : (s.extract f j).data.toList = (s.data.toList.drop f).take (j - f) := by
  rw [ByteArray.data_extract, Array.toList_extract, List.extract_eq_take_drop]
theorem cut_drop {s : ByteArray} {j : Nat} (h : j < s.size) : s.data.toList.drop j = (s[j]'h) :: s.data.toList.drop (j + 1) := by
  rw [List.drop_eq_getElem_cons (by rw [dt_len]; exact h)]
  rfl
theorem cut_step {s : ByteArray} {P : List ByteArray} {f j : Nat} (hf : f ≤ j) (hj : j < s.size) (hb : (s[j]'hj) ≠ 59) (h : CutAt s P f j) : CutAt s P f (j + 1) := by
  rw [CutAt] at h ⊢
  rw [h, cut_drop hj, cuts, if_neg hb, glue_glue _ _ (cuts_ne _)]
  congr 2
  have e : j + 1 - f = (j - f) + 1 := by omega
  rw [e, List.take_add_one, List.getElem?_drop, show f + (j - f) = j by omega, List.getElem?_eq_getElem (by rw [dt_len]; exact hj)]
  rfl
theorem cut_hit {s : ByteArray} {P : List ByteArray} {f j : Nat} (hf : f ≤ j) (hj : j < s.size) (hb : (s[j]'hj) = 59) (h : CutAt s P f j) : CutAt s (P ++ [s.extract f j]) (j + 1) (j + 1) := by
  rw [CutAt] at h ⊢
  rw [h, cut_drop hj, cuts, if_pos hb, Nat.sub_self, List.take_zero, glue_nil (cuts_ne _), List.map_append, List.map_singleton, ext_data]
  simp [glue]
theorem cut_end {s : ByteArray} {P : List ByteArray} {f : Nat} (h : CutAt s P f s.size) : P ++ [s.extract f s.size] = cB s := by
  apply data_inj
  rw [cB_data, h, List.map_append, List.map_singleton, ext_data]
  rw [show s.data.toList.drop s.size = [] from List.drop_eq_nil_of_le (by rw [dt_len]; exact Nat.le_refl _)]
  simp [cuts, glue]
set_option maxHeartbeats 800000 in
theorem c_l9Cut (s : ByteArray) (w : World) (hs : s.size ≤ 2000000) :
    Calls Tryd.prog 25 #[.string s, .int .u8 59] w fun e w' => ∃ v, e = .returned v ∧ RwT w' w.heap.size w'.heap.size v (cB s) ∧ Below w.heap.size w w' := by
  go_enter Tryd.func25, Tryd.ntmps25
  go_wp2
  go_loopw [5, 6, 7] (fun x y z wr => ∃ (j f : Nat) (P : List ByteArray) (v : Value), x = v ∧ y = .int .i64 f ∧ z = .int .i64 j ∧ P.length ≤ j ∧ f ≤ j ∧ OwnT wr w.heap.size v P ∧ Below w.heap.size w wr ∧ ((j ≤ s.size ∧ Hid (CutAt s P f j)) ∨ (j = s.size + 1 ∧ Hid (P = cB s)))) (fun _ _ z _ => s.size + 1 - (intOf z).toNat)
  case atStart => exact ⟨0, 0, [], _, rfl, rfl, rfl, Nat.le_refl _, Nat.le_refl _, OwnT.empty w (Nat.le_refl _) rfl, RetRow.e1 _ _, .inl ⟨Nat.zero_le _, cut0 s⟩⟩
  case round =>
    obtain ⟨j, f, P, v, rfl, rfl, rfl, hP, hf, ow, hbel, hcase⟩ := hrel
    rcases hcase with ⟨hj, HC⟩ | ⟨hj, HC⟩
    · have q0 : (0 : Int) ≤ (f : Int) := by omega
      have q1 : (f : Int) ≤ (j : Int) := by omega
      have q2 : (j : Int) ≤ (s.size : Int) := by omega
      have hsz : (s.extract f j).size ≤ maxLen := by rw [ByteArray.size_extract]; unfold maxLen; omega
      by_cases he : j = s.size
      · have t1 : ((j : Int) == (s.size : Int)) = true := by rw [beq_iff_eq]; omega
        have HE := hid (show P ++ [s.extract f j] = cB s by rw [he]; rw [he] at HC; exact cut_end HC.out)
        have HJ := hid he
        clear he
        go_wp2_with (at_builtin; refine wpList_appT1 rfl _ _ _ rfl Tryd.underlying43 w.heap.size _ P rfl rfl ow (by omega) hsz hbel.size ?_; intro v1 w1 o1 b1)
        go_roundw
        case rel => exact ⟨j + 1, j + 1, _, v1, rfl, by go_num, by go_num, by rw [List.length_append, List.length_singleton]; omega, Nat.le_refl _, o1, hbel.trans b1, .inr ⟨by rw [HJ.out], HE.out⟩⟩
        case measure => simp [intOf]; omega
      · have t1 : ((j : Int) == (s.size : Int)) = false := by rw [beq_eq_false_iff_ne]; omega
        have hlt : j < s.size := by omega
        clear he
        by_cases hb : (s[j]'hlt) = 59
        · have t2 : (((s[j]'hlt).toNat : Int) == 59) = true := by rw [hb]; rfl
          have HE := hid (cut_hit hf hlt hb HC.out)
          clear hb
          go_wp2_with (at_builtin; refine wpList_appT1 rfl _ _ _ rfl Tryd.underlying43 w.heap.size _ P rfl rfl ow (by omega) hsz hbel.size ?_; intro v1 w1 o1 b1)
          go_roundw
          case rel => exact ⟨j + 1, j + 1, _, v1, rfl, by go_num, by go_num, by rw [List.length_append, List.length_singleton]; omega, Nat.le_refl _, o1, hbel.trans b1, .inl ⟨by omega, HE.out⟩⟩
          case measure => simp [intOf]; omega
        · have t2 : (((s[j]'hlt).toNat : Int) == 59) = false := by
            rw [beq_eq_false_iff_ne]
            intro h
            exact hb (UInt8.toNat_inj.1 (by show _ = 59; omega))
          have HE := hid (cut_step hf hlt hb HC.out)
          clear hb
          go_wp2
          go_roundw
          case rel => exact ⟨j + 1, f, P, _, rfl, rfl, by go_num, by omega, by omega, ow, hbel, .inl ⟨by omega, HE.out⟩⟩
          case measure => simp [intOf]; omega
    · have hn : ¬ (j : Int) ≤ (s.size : Int) := by omega
      have hl := cB_len s
      go_wp2
      go_ret
      exact ⟨_, rfl, by rw [← HC.out]; exact ow.rwT (by rw [HC.out]; omega) (Nat.le_refl _), hbel⟩
end Go.Proofs.YtlinkeemccnfmaaDoor
