/- What is proved here: the laws' helpers that write marks into a row of strings. -/
import Derived.Test.YtkaanlldjkflaaaRwsM
set_option linter.unusedVariables false
set_option linter.unusedSimpArgs false
set_option maxRecDepth 100000
namespace Go.Proofs.Ytkaanlldjkflaaa
open Go.RowKit

theorem c_markText (k : Int) (w : World) (h0 : 0 < k) (h1 : k < 1000000000000) :
    Calls Try.prog 80 #[.int .i64 k] w fun e w' => ∃ s : ByteArray, e = .returned (.string s) ∧ s.size ≤ 20 ∧ Below w.heap.size w w' := by
  have hn : ¬ k ≤ 0 := by omega
  go_enter Try.func80, Try.ntmps80
  go_wp2
  go_loopw [0, 3] (fun x o wr => ∃ (r : Nat) (X : Int) (s : ByteArray), x = .int .i64 X ∧ o = .string s ∧ 0 ≤ X ∧ Hid (X < ten r) ∧ s.size + r ≤ 12 ∧ Hid (X ≤ k) ∧ Below w.heap.size w wr) (fun x _ _ => (intOf x).toNat)
  case atStart => exact ⟨12, k, ⟨#[]⟩, rfl, rfl, by omega, by show _ < ten 12; exact h1, by show 0 + 12 ≤ 12; omega, by show k ≤ k; omega, Below.refl _ _⟩
  case round =>
    obtain ⟨r, X, s, rfl, rfl, hX0, HX1, hs, HXK, hbel⟩ := hrel
    have hxk := HXK.out
    by_cases hp : 0 < X
    · have hr : r ≠ 0 := by rintro rfl; have := HX1.out; rw [ten_zero] at this; omega
      obtain ⟨q, rfl⟩ : ∃ q, r = q + 1 := ⟨r - 1, by omega⟩
      have HQ := hid (show X / 10 < ten q by have := HX1.out; rw [ten_succ] at this; omega)
      have k5 : IntKind.u8.wrap (48 + X % 10) = 48 + X % 10 := IntWalk.u8_in _ (by omega)
      have hz : (strOfNums [48 + X % 10]).size = 1 := by rw [strOfNums_size]; rfl
      have hcv := run_convert_bytes_arg (wr.alloc (.cells #[.int .u8 (48 + X % 10)] 5)) 31 5 Try.underlying31 Try.underlying5 wr.heap.size 0 1 1 [48 + X % 10] rfl (fun i hi => by
        obtain rfl : i = 0 := by omega
        rw [Nat.zero_add, World.cell?_alloc_at _ _ _ _ rfl]; rfl) 9 Try.underlying9
      have hsum : ¬ ((strOfNums [48 + X % 10]).size + s.size > 9223372036854775807) := by rw [hz]; omega
      have hbs := hbel.size
      go_wp2
      go_roundw
      case rel => exact ⟨q, X / 10, strOfNums [48 + X % 10] ++ s, rfl, rfl, by omega, HQ.out, by rw [ByteArray.size_append, hz]; omega, by show _ ≤ _; omega, hbel.alloc hbs _⟩
      case measure => simp [intOf]; omega
    · have hsum : ¬ ((⟨#[109]⟩ : ByteArray).size + s.size > 9223372036854775807) := by show ¬ (1 + s.size > 9223372036854775807); omega
      go_wp2
      go_ret
      exact ⟨_, rfl, by rw [ByteArray.size_append]; show 1 + s.size ≤ 20; omega, hbel⟩
theorem markStrs (v : Value) (cs : List ByteArray) (k : Int) (lo hi : Nat) (w : World) (h0 : 0 < k) (hk : k + cs.length ≤ 100000000000) (hv : RwT w lo hi v cs) :
    Calls Try.prog 53 #[v, .int .i64 k] w fun e w' => e = .returned (.int .i64 (k + cs.length)) ∧ Chg lo hi w w' := by
  obtain ⟨g, cap, rfl⟩ := hv.form
  obtain ⟨hg0, hg1, hg2⟩ := hv.lt
  have HV := hid hv
  clear hv
  obtain ⟨n, hn⟩ : ∃ n, cs.length = n := ⟨_, rfl⟩
  have HN := hid hn
  rw [hn] at hk HV ⊢
  clear hn
  go_enter Try.func53, Try.ntmps53
  go_wp2
  go_loopw [1, 5] (fun x i wr => ∃ (j : Nat) (ds : List ByteArray), j ≤ n ∧ i = .int .i64 j ∧ x = .int .i64 (k + j) ∧ Hid (ds.length = n) ∧ Hid (RwT wr lo hi (.slice (some ⟨g, 0, none⟩) n cap) ds) ∧ Chg lo hi w wr) (fun _ i _ => n - (intOf i).toNat)
  case atStart => exact ⟨0, cs, Nat.zero_le _, rfl, by simp, HN, HV, Chg.refl _ _ _⟩
  case round =>
    obtain ⟨j, ds, hj, rfl, rfl, HD, HR, hc⟩ := hrel
    by_cases hlt : j < n
    · have q0 : (0 : Int) ≤ (j : Int) := by omega
      have q1 : (j : Int) < n := by omega
      go_wp2_with fail
      refine (c_markText (k + j) _ (by omega) (by omega)).mono ?_
      rintro e w2 ⟨s, rfl, hs, b⟩
      have r2 := HR.out.cong (w' := w2) (hi' := hi) (b.block g HR.out.lt.2.2) (Nat.le_refl _)
      obtain ⟨c0, f0⟩ := r2.at (show j < ds.length by rw [HD.out]; exact hlt)
      have HR2 := hid (r2.set (show j < ds.length by rw [HD.out]; exact hlt) (s := s) (by unfold maxLen; omega))
      have hc2 : Chg lo hi w w2 := hc.trans ⟨b.os, b.tape, b.output, b.size, fun i hi _ => b.block i hi⟩
      clear r2
      go_wp2
      go_roundw
      case rel => exact ⟨j + 1, ds.set j s, by omega, by go_num, by go_num, by show _ = _; rw [List.length_set]; exact HD.out, HR2.out, hc2.setCell (p := ⟨g, j, none⟩) hg0 hg1 _⟩
      case measure => simp [intOf]; omega
    · obtain rfl : j = n := by omega
      go_wp2
      go_ret
      exact ⟨rfl, hc⟩
theorem markEng (v : Value) (cs : List ByteArray) (k : Int) (lo hi : Nat) (w : World) (h0 : 0 < k) (hk : k + cs.length ≤ 100000000000) (hhi : hi ≤ w.heap.size) (hv : RwT w lo hi v cs) :
    Calls Try.prog 19 #[.agg #[v], .int .i64 k] w fun e w' => e = .returned (.int .i64 (k + cs.length)) ∧ Chg lo hi w w' := by
  obtain ⟨g, cap, rfl⟩ := hv.form
  have e0 := eng_cell w (.slice (some ⟨g, 0, none⟩) cs.length cap) 27
  have b1 := RetRow.e1 w (.cells #[.slice (some ⟨g, 0, none⟩) cs.length cap] 27)
  have hv1 := hv.below b1 hhi
  have c1 : Chg lo hi w (w.alloc (.cells #[.slice (some ⟨g, 0, none⟩) cs.length cap] 27)) := ⟨b1.os, b1.tape, b1.output, b1.size, fun i hi _ => b1.block i hi⟩
  clear hv b1
  go_enter Try.func19, Try.ntmps19
  go_wp2_with fail
  refine (markStrs _ cs k lo hi _ h0 hk hv1).mono ?_
  rintro e w2 ⟨rfl, c2⟩
  go_wp2
  go_ret
  exact ⟨rfl, c1.trans c2⟩
end Go.Proofs.Ytkaanlldjkflaaa
