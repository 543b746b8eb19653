/- What is proved here: the decimal text of a number as the reference writes it. -/
import Derived.Test.YtlinkeemccnfmaaDoorShl
import Derived.Test.YtlinkeemccnfmaaDoorApl
import Derived.Laws.BytesArg
import Derived.Lib.ItoaNum
import Derived.Lib.ItoaLen
import Derived.Lib.Join
set_option linter.unusedVariables false
set_option linter.unusedSimpArgs false
set_option maxRecDepth 100000
namespace Go.Proofs.YtlinkeemccnfmaaDoor
open Go.RowKit

/-- The decimal text of a number. -/
def IT (n : Int) : ByteArray := ⟨(Lib.itoa n).toArray⟩
theorem IT_data (n : Int) : (IT n).data.toList = Lib.itoa n := by simp [IT]
theorem IT_size (n : Int) (h0 : -9223372036854775808 ≤ n) (h1 : n ≤ 9223372036854775807) : (IT n).size ≤ 21 := by
  have := Lib.itoa_length_le n h0 h1
  simpa [IT, ByteArray.size] using this
theorem by_data {a b : ByteArray} (h : a.data.toList = b.data.toList) : a = b := by
  cases a; cases b
  simp only [ByteArray.mk.injEq] at h ⊢
  exact Array.toList_inj.1 h
theorem app_data (a b : ByteArray) : (a ++ b).data.toList = a.data.toList ++ b.data.toList := by simp
theorem nums1 (x : Int) : (strOfNums [x]).data.toList = [UInt8.ofNat x.toNat] := rfl
set_option maxHeartbeats 1600000 in
theorem c_l9DecP (N : Nat) (w : World) (h1 : N ≤ 1000000000000) :
    Calls Tryd.prog 19 #[.int .i64 N] w fun e w' => e = .returned (.string (IT N)) ∧ Below w.heap.size w w' := by
  have hn : ¬ (N : Int) < 0 := by omega
  have hn2 : ¬ (N : Int) < -9223372036854775807 := by omega
  have HR := hid (show (IT N).data.toList = Lib.decDigits N by rw [IT_data, Lib.itoa, if_neg (by omega)]; simp)
  go_enter Tryd.func19, Tryd.ntmps19
  go_wp2
  go_loopw [0, 3] (fun x o wr => ∃ (X : Nat) (s : ByteArray) (r : Nat), x = .int .i64 X ∧ o = .string s ∧ X ≤ N ∧ s.size + r ≤ 100 ∧ Hid (X < 10 ^ r) ∧ Hid (Lib.decDigits X ++ s.data.toList = Lib.decDigits N) ∧ Below w.heap.size w wr) (fun x _ _ => (intOf x).toNat)
  case atStart => exact ⟨N, ⟨#[]⟩, 20, rfl, rfl, Nat.le_refl _, by show 0 + 20 ≤ 100; omega, by show N < 10 ^ 20; omega, by show _ = _; simp, Below.refl _ _⟩
  case round =>
    obtain ⟨X, s, r, rfl, rfl, hX, hs, HX, HD, hbel⟩ := hrel
    have hbs := hbel.size
    have k5 : IntKind.u8.wrap (48 + (X : Int) % 10) = 48 + (X : Int) % 10 := IntWalk.u8_in _ (by omega)
    by_cases hp : (X : Int) > 9
    · have hr : r ≠ 0 := by rintro rfl; have := HX.out; simp at this; omega
      obtain ⟨q, rfl⟩ : ∃ q, r = q + 1 := ⟨r - 1, by omega⟩
      have HQ := hid (show X / 10 < 10 ^ q by have := HX.out; rw [Nat.pow_succ] at this; omega)
      have hz : (strOfNums [48 + (X : Int) % 10]).size = 1 := by rw [strOfNums_size]; rfl
      have hcv := run_convert_bytes_arg (wr.alloc (.cells #[.int .u8 (48 + (X : Int) % 10)] 5)) 33 5 Tryd.underlying33 Tryd.underlying5 wr.heap.size 0 1 1 [48 + (X : Int) % 10] rfl (fun i hi => by
        obtain rfl : i = 0 := by omega
        rw [Nat.zero_add, World.cell?_alloc_at _ _ _ _ rfl]; rfl) 9 Tryd.underlying9
      have hsum : ¬ ((strOfNums [48 + (X : Int) % 10]).size + s.size > 9223372036854775807) := by rw [hz]; omega
      have HD2 := hid (show Lib.decDigits (X / 10) ++ (strOfNums [48 + (X : Int) % 10] ++ s).data.toList = Lib.decDigits N by
        rw [app_data, nums1, ← HD.out]
        conv => rhs; rw [Lib.decDigits, dif_neg (by omega)]
        rw [List.append_assoc]
        congr 3)
      go_wp2
      go_roundw
      case rel => exact ⟨X / 10, strOfNums [48 + (X : Int) % 10] ++ s, q, by go_num, rfl, by omega, by rw [ByteArray.size_append, hz]; omega, HQ.out, HD2.out, hbel.alloc hbs _⟩
      case measure => simp [intOf]; omega
    · have k6 : IntKind.u8.wrap (48 + (X : Int)) = 48 + (X : Int) := IntWalk.u8_in _ (by omega)
      have hz : (strOfNums [48 + (X : Int)]).size = 1 := by rw [strOfNums_size]; rfl
      have hcv := run_convert_bytes_arg (wr.alloc (.cells #[.int .u8 (48 + (X : Int))] 5)) 33 5 Tryd.underlying33 Tryd.underlying5 wr.heap.size 0 1 1 [48 + (X : Int)] rfl (fun i hi => by
        obtain rfl : i = 0 := by omega
        rw [Nat.zero_add, World.cell?_alloc_at _ _ _ _ rfl]; rfl) 9 Tryd.underlying9
      have hsum : ¬ ((strOfNums [48 + (X : Int)]).size + s.size > 9223372036854775807) := by rw [hz]; omega
      have HE := hid (show strOfNums [48 + (X : Int)] ++ s = IT N from by_data (by
        rw [app_data, nums1, HR.out, ← HD.out, Lib.decDigits, dif_pos (by omega)]
        congr 3))
      go_wp2
      go_ret
      exact ⟨by rw [← HE.out]; rfl, hbel.alloc hbs _⟩
theorem c_l9Dec (n : Int) (w : World) (h0 : -1000000000000 ≤ n) (h1 : n ≤ 1000000000000) :
    Calls Tryd.prog 19 #[.int .i64 n] w fun e w' => e = .returned (.string (IT n)) ∧ Below w.heap.size w w' := by
  by_cases hn : n < 0
  · obtain ⟨N, rfl⟩ : ∃ N : Nat, n = -(N : Int) := ⟨n.natAbs, by omega⟩
    have hn2 : ¬ -(N : Int) < -9223372036854775807 := by omega
    have hsz := IT_size N (by omega) (by omega)
    have hsum : ¬ ((⟨#[45]⟩ : ByteArray).size + (IT N).size > 9223372036854775807) := by show ¬ (1 + (IT N).size > 9223372036854775807); omega
    have HE := hid (show (⟨#[45]⟩ : ByteArray) ++ IT N = IT (-(N : Int)) from by_data (by
      rw [app_data, IT_data, IT_data, Lib.itoa, Lib.itoa, if_neg (by omega), if_pos (by omega)]
      simp))
    have hneg : -(-(N : Int)) = (N : Int) := by omega
    have HC := hid (fun W => c_l9DecP N W (by omega))
    go_enter Tryd.func19, Tryd.ntmps19
    go_wp2_with fail
    refine (HC.out _).mono ?_
    rintro e w1 ⟨rfl, b⟩
    go_wp2
    go_ret
    exact ⟨by rw [← HE.out]; rfl, b⟩
  · obtain ⟨N, rfl⟩ : ∃ N : Nat, n = (N : Int) := ⟨n.toNat, by omega⟩
    exact c_l9DecP N w (by omega)
end Go.Proofs.YtlinkeemccnfmaaDoor
