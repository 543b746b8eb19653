/- What is proved here: those statements of Sq1 that this claim needs. -/
import Derived.RangeFuncNested
import Derived.RangeFuncBound
import Derived.RangeFuncCalls
import Derived.RangeFuncLeaves
import Derived.Shelf.Abstract
import Derived.WalkKit
import Derived.OwnWalkIn
import Derived.TacticsInMore
import Derived.LoopNIn
import Derived.LoopIn
import Derived.Test.YtlinkeemccnfmaaGreatDoorCtM
set_option linter.unusedVariables false
set_option linter.unusedSimpArgs false
set_option maxRecDepth 100000
namespace Go.Proofs.YtlinkeemccnfmaaGreatDoor
open Go.RowKit Go.Shelf
attribute [local go_sem] Oper.semAt_some
def Kp3 (x y z : Nat) (W W' : World) : Prop := W'.heap[x]? = W.heap[x]? ∧ W'.heap[y]? = W.heap[y]? ∧ W'.heap[z]? = W.heap[z]?
theorem Kp3.refl (x y z : Nat) (W : World) : Kp3 x y z W W := ⟨rfl, rfl, rfl⟩
theorem Kp3.trans {x y z : Nat} {A B C : World} (h : Kp3 x y z A B) (k : Kp3 x y z B C) : Kp3 x y z A C := ⟨k.1.trans h.1, k.2.1.trans h.2.1, k.2.2.trans h.2.2⟩
theorem Kp3.put {x y z l : Nat} {W : World} {o' : Obj} (h1 : x ≠ l) (h2 : y ≠ l) (h3 : z ≠ l) : Kp3 x y z W (W.putObj l o') :=
  ⟨World.putObj_heap_other h1, World.putObj_heap_other h2, World.putObj_heap_other h3⟩
def celL (W : World) (b : Nat) : Nat := match W.cell? ⟨b, 0, none⟩ with | some (.string t) => t.size | _ => 0
theorem celL_eq {W : World} {b : Nat} {t : ByteArray} (h : W.heap[b]? = some (.cells #[.string t] 9 (0, 0))) : celL W b = t.size := by
  unfold celL; rw [row_cell h]; rfl
theorem cB_none {t : ByteArray} (h : Lib.indexByte t.data.toList 59 = -1) : cB t = [t] := by
  rw [cB, cuts_none h]; rfl
theorem cB_some {t : ByteArray} {o : Nat} (h : Lib.indexByte t.data.toList 59 = o) : o < t.size ∧ cB t = t.extract 0 o :: cB (t.extract (o + 1) t.size) := by
  have ho := (ix_split h).1
  rw [dt_len] at ho
  refine ⟨ho, ?_⟩
  rw [cB, cuts_some h, cB, List.map_cons]
  congr 1
  · apply by_data
    rw [ByteArray.data_extract, Array.toList_extract, List.extract_eq_take_drop]; simp
  · rw [ByteArray.data_extract, Array.toList_extract, List.extract_eq_take_drop, List.take_of_length_le]
    rw [List.length_drop, dt_len]; exact Nat.le_refl _
set_option maxHeartbeats 6400000 in
theorem split1_in (n : Nat) (hn : 1 ≤ n) (l x y z : Nat) (s : ByteArray) (hs : s.size ≤ 16777216) (J Jx : List ByteArray → World → Prop) (hxy : x ≠ y) (hzy : z ≠ y)
    (hJ : ∀ pre W t, J pre W → J pre (W.setCell ⟨y, 0, none⟩ (.string t)))
    (hY : ∀ pre p W, J pre W → (pre ++ [p]) <+: cB s → YieldAt Fence.wide (n - 1) Tryz.prog l #[.string p] W fun e W' =>
      (e = .returned (.bool true) ∧ J (pre ++ [p]) W' ∧ Kp3 x y z W W') ∨ (e = .returned (.bool false) ∧ Jx (pre ++ [p]) W'))
    (W : World) (hx : W.heap[x]? = some (.cells #[.string ⟨#[59]⟩] 9 (0, 0))) (hy : W.heap[y]? = some (.cells #[.string s] 9 (0, 0))) (hz : W.heap[z]? = some (.cells #[.int .i64 0] 3 (0, 0))) (h0 : J [] W) :
    CallsIn Fence.wide n Tryz.prog 81 #[.func (.yield l) #[] #[], .pointer (some ⟨x, 0, none⟩), .pointer (some ⟨y, 0, none⟩), .pointer (some ⟨z, 0, none⟩)] W fun e W' => (∃ v, e = .returned v) ∧ (J (cB s) W' ∨ ∃ pre, pre <+: cB s ∧ Jx pre W') := by
  refine callsIn_of_wp Tryz.func81 rfl trivial ?_ rfl
  simp only [Tryz.ntmps81, List.size_toArray, List.length_cons, List.length_nil, Nat.reduceAdd, Nat.reduceSub, Array.replicate_succ, Array.replicate_zero, List.push_toArray, List.append_toArray, List.nil_append, List.cons_append]
  have HX := hid hx
  have HY0 := hid hy
  have HZ := hid hz
  have HJ := hid hJ
  have HYY := hid hY
  have c1 := row_cell hx 0
  clear hx hy hz hJ hY
  gi_wp2
  gi_loopw [7] (fun _ wr => ∃ (pre : List ByteArray) (t : ByteArray), t.size ≤ s.size ∧ Hid (cB s = pre ++ cB t) ∧ Hid (J pre wr) ∧ Hid (wr.heap[x]? = some (.cells #[.string ⟨#[59]⟩] 9 (0, 0))) ∧ Hid (wr.heap[y]? = some (.cells #[.string t] 9 (0, 0))) ∧ Hid (wr.heap[z]? = some (.cells #[.int .i64 0] 3 (0, 0)))) (fun _ wr => celL wr y)
  case atStart => exact ⟨[], s, Nat.le_refl _, rfl, h0, HX.out, HY0.out, HZ.out⟩
  case round =>
    obtain ⟨pre, t, hts, HC, HJS, HXW, HYW, HZW⟩ := hrel
    clear c1 h0
    have d1 := row_cell HXW.out 0
    have d2 := row_cell HYW.out 0
    have d3 := row_cell HZW.out 0
    have hge := Lib.indexByte_ge t.data.toList 59
    by_cases hm : Lib.indexByte t.data.toList 59 = -1
    · have HB := hid (cB_none hm)
      have HI := hid (fun W => (show Calls Tryz.prog 83 #[.string t, .string ⟨#[59]⟩] W fun e w' => e = .returned (.int .i64 (-1)) ∧ w' = W by rw [← hm]; exact Tryz.strings_Index_one t 59 W))
      obtain ⟨fn, tmps, assign, body, hy, hR⟩ := HYY.out pre t wr HJS.out (by rw [HC.out, HB.out]; exact List.prefix_refl _)
      clear hm
      gi_wp2_with (refine ⟨trivial, ?_⟩; gi_at_call 83; refine (callsIn_wide.2 (HI.out _)).mono ?_; rintro e w' ⟨rfl, rfl⟩)
      refine hR.mono ?_
      rintro e W3 (⟨rfl, hJ3, hk3⟩ | ⟨rfl, hJx3⟩)
      · gi_wp2
        go_end0
        exact ⟨⟨_, rfl⟩, .inl (by rw [HC.out, HB.out]; exact hJ3)⟩
      · gi_wp2
        go_end0
        exact ⟨⟨_, rfl⟩, .inr ⟨pre ++ [t], by rw [HC.out, HB.out]; exact List.prefix_refl _, hJx3⟩⟩
    · obtain ⟨o, ho⟩ : ∃ o : Nat, Lib.indexByte t.data.toList 59 = o := ⟨(Lib.indexByte t.data.toList 59).toNat, by omega⟩
      have hcb := cB_some ho
      have hot := hcb.1
      have HB := hid hcb.2
      have HI := hid (fun W => (show Calls Tryz.prog 83 #[.string t, .string ⟨#[59]⟩] W fun e w' => e = .returned (.int .i64 o) ∧ w' = W by rw [← ho]; exact Tryz.strings_Index_one t 59 W))
      have q0 : (0 : Int) ≤ (o : Int) := by omega
      have q1 : (o : Int) ≤ (t.size : Int) := by omega
      have q2 : (o : Int) + 1 ≤ (t.size : Int) := by omega
      have q3 : ((o : Int) + 1).toNat = o + 1 := by omega
      have q4 : (0 : Int) ≤ (o : Int) + 1 := by omega
      have q5 : ¬ (o : Int) < 0 := by omega
      obtain ⟨P, hP⟩ : ∃ P, t.extract 0 o = P := ⟨_, rfl⟩
      obtain ⟨fn, tmps, assign, body, hy, hR⟩ := HYY.out pre P wr HJS.out (by rw [HC.out, HB.out, hP]; exact ⟨cB (t.extract (o + 1) t.size), by simp⟩)
      rw [hP] at HB
      have hts2 : (t.extract (o + 1) t.size).size = t.size - (o + 1) := by rw [ByteArray.size_extract]; omega
      obtain ⟨T, hT⟩ : ∃ T, t.extract (o + 1) t.size = T := ⟨_, rfl⟩
      rw [hT] at HB hts2
      have HTS := hid hts2
      clear hm ho hcb hts2
      gi_wp2_with (refine ⟨trivial, ?_⟩; gi_at_call 83; refine (callsIn_wide.2 (HI.out _)).mono ?_; rintro e w' ⟨rfl, rfl⟩)
      refine hR.mono ?_
      rintro e W3 (⟨rfl, hJ3, hk3⟩ | ⟨rfl, hJx3⟩)
      · have HX3 := hid (hk3.1.trans HXW.out)
        have HY3 := hid (hk3.2.1.trans HYW.out)
        have HZ3 := hid (hk3.2.2.trans HZW.out)
        have e1 := row_cell HX3.out 0
        have e2 := row_cell HY3.out 0
        have e3 := row_cell HZ3.out 0
        have f2 := row_free HY3.out 0
        clear d1 d2 d3
        gi_wp2
        go_roundw
        case rel => exact ⟨pre ++ [P], T, by have := HTS.out; omega, by show _ = _; rw [HC.out, HB.out]; simp, HJ.out _ _ _ hJ3, (Below.heap_setCell W3 ⟨y, 0, none⟩ _ x hxy).trans HX3.out, row_set HY3.out 0 (.string T), (Below.heap_setCell W3 ⟨y, 0, none⟩ _ z hzy).trans HZ3.out⟩
        case measure => rw [celL_eq HYW.out, celL_eq (row_set HY3.out 0 (.string T))]; have := HTS.out; omega
      · gi_wp2
        refine bodyPost_ret (results_none rfl _ _ _) rfl ?_
        exact ⟨⟨_, rfl⟩, .inr ⟨pre ++ [P], by rw [HC.out, HB.out]; exact ⟨cB T, by simp⟩, hJx3⟩⟩
def sqW (w : World) (s : ByteArray) : World := ((w.alloc (.cells #[.string s] 9)).alloc (.cells #[.string ⟨#[59]⟩] 9)).alloc (.cells #[.int .i64 0] 3)
theorem sqW_at (w : World) (s : ByteArray) : (sqW w s).heap[w.heap.size]? = some (.cells #[.string s] 9 (0, 0)) ∧ (sqW w s).heap[w.heap.size + 1]? = some (.cells #[.string ⟨#[59]⟩] 9 (0, 0)) ∧ (sqW w s).heap[w.heap.size + 2]? = some (.cells #[.int .i64 0] 3 (0, 0)) ∧ (sqW w s).heap.size = w.heap.size + 3 ∧ Below w.heap.size w (sqW w s) := by
  have s1 : (w.alloc (.cells #[.string s] 9)).heap.size = w.heap.size + 1 := by simp
  have s2 : ((w.alloc (.cells #[.string s] 9)).alloc (.cells #[.string ⟨#[59]⟩] 9)).heap.size = w.heap.size + 2 := by simp
  have a0 := heap_alloc_new w (.cells #[.string s] 9)
  have a1 := heap_alloc_new (w.alloc (.cells #[.string s] 9)) (.cells #[.string ⟨#[59]⟩] 9)
  have a2 := heap_alloc_new ((w.alloc (.cells #[.string s] 9)).alloc (.cells #[.string ⟨#[59]⟩] 9)) (.cells #[.int .i64 0] 3)
  rw [s1] at a1
  rw [s2] at a2
  refine ⟨?_, ?_, a2, by rw [sqW]; simp, ?_⟩
  · rw [sqW, Below.heap_alloc _ _ _ (by omega), Below.heap_alloc _ _ _ (by omega)]; exact a0
  · rw [sqW, Below.heap_alloc _ _ _ (by omega)]; exact a1
  · exact (((Below.refl _ w).alloc (Nat.le_refl _) _).alloc (by omega) _).alloc (by omega) _
theorem c_splitSeq (s : ByteArray) (w : World) :
    Calls Tryz.prog 71 #[.string s, .string ⟨#[59]⟩, .int .i64 0] w fun e w' => e = .returned (.func (.func 81) #[] #[.pointer (some ⟨w.heap.size + 1, 0, none⟩), .pointer (some ⟨w.heap.size, 0, none⟩), .pointer (some ⟨w.heap.size + 2, 0, none⟩)]) ∧ w' = sqW w s := by
  go_enter Tryz.func71, Tryz.ntmps71
  go_wp2
  go_ret
  exact ⟨rfl, rfl⟩
theorem c_SplitSeq (s : ByteArray) (w : World) :
    Calls Tryz.prog 47 #[.string s, .string ⟨#[59]⟩] w fun e w' => e = .returned (.func (.func 81) #[] #[.pointer (some ⟨w.heap.size + 1, 0, none⟩), .pointer (some ⟨w.heap.size, 0, none⟩), .pointer (some ⟨w.heap.size + 2, 0, none⟩)]) ∧ w' = sqW w s := by
  go_enter Tryz.func47, Tryz.ntmps47
  go_wp2_with fail
  refine (c_splitSeq s _).mono ?_
  rintro e w1 ⟨rfl, rfl⟩
  go_wp2
  go_ret
  exact ⟨rfl, rfl⟩
end Go.Proofs.YtlinkeemccnfmaaGreatDoor
