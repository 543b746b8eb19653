/- What is proved here: the number of a text, as the program and the reference read it. -/
import Derived.Test.YtlinkeemccnfmaaDoorNmM
import Derived.Test.YtlinkeemccnfmaaDoorFmt3
import Derived.Test.YtlinkeemccnfmaaDoorShm
import Derived.Lib.ConvBytes
set_option linter.unusedVariables false
set_option linter.unusedSimpArgs false
set_option maxRecDepth 100000
namespace Go.Proofs.YtlinkeemccnfmaaDoor
open Go.RowKit

/-- The library's variables as they lie: below B. -/
def LibV (B : Nat) (w : World) : Prop :=
  Lib.TabBelow Tryd.prog B w "internal/strconv.uint64pow10" .u64 Lib.pow10Tab ∧ ((∃ m, w.cell? ⟨1, 0, none⟩ = some (.int .i64 m)) ∧ 1 < B) ∧
   (∃ ev, w.cell? ⟨4, 0, none⟩ = some ev ∧ (ev = .nilIface ∨ ∃ te pe, ev = .iface te pe)) ∧ 4 < B
theorem LibV.on {B : Nat} {w w1 : World} (h : LibV B w) (hb : Below B w w1) : LibV B w1 := by
  obtain ⟨h1, ⟨⟨m, h2⟩, h3⟩, ⟨ev, h4, h5⟩, h6⟩ := h
  exact ⟨h1.on hb, ⟨⟨m, (hb.cell (p := ⟨1, 0, none⟩) h3).trans h2⟩, h3⟩, ⟨ev, (hb.cell (p := ⟨4, 0, none⟩) h6).trans h4, h5⟩, h6⟩
theorem LibV.to {B B' : Nat} {w w1 : World} (h : LibV B w) (hb : Below B' w w1) (hB : B ≤ B') : LibV B w1 := h.on (hb.mono hB)
theorem trim_unS (l : List UInt8) : Lib.trimPrefix l [45] = unS l := by
  cases l with
  | nil => rfl
  | cons x t =>
    unfold Lib.trimPrefix Lib.hasPrefix unS
    by_cases h : x = 45
    · subst h; simp [List.isPrefixOf]
    · have h2 : (45 : UInt8) ≠ x := fun e => h e.symm
      simp [List.isPrefixOf, h, h2]
theorem bytes_below (w : World) (e : TypeId) (s : ByteArray) : Below w.heap.size w (Lib.bytesWorld w e s) :=
  ⟨rfl, rfl, rfl, by rw [Lib.bytesWorld_size]; omega, fun j hj => Lib.bytesWorld_at_old w e s j hj⟩
theorem mk_size (l : List UInt8) : (⟨l.toArray⟩ : ByteArray).size = l.length := by show l.toArray.size = _; simp
theorem dt_len (a : ByteArray) : a.data.toList.length = a.size := Array.length_toList
theorem unS_le (l : List UInt8) : (unS l).length ≤ l.length ∧ l.length ≤ (unS l).length + 1 := by
  unfold unS; split
  · rw [List.length_drop]; omega
  · omega
/-- What a call leaves that reads a number. -/
def RetN (w : World) (o : Option Int) (e : Ending) (w' : World) : Prop := e = .returned (.tuple #[.int .i64 (o.getD 0), .bool o.isSome]) ∧ Below w.heap.size w w'
theorem same_bytes {n : Int} {s : ByteArray} : ((IT n).toList == s.toList) = decide (Lib.itoa n = s.data.toList) := by
  rw [ByteArray.toList_eq, ByteArray.toList_eq, IT_data]
  by_cases h : Lib.itoa n = s.data.toList <;> simp [h]
set_option maxHeartbeats 1600000 in
theorem c_parseNumber (s : ByteArray) (w : World) (B : Nat) (hs : s.size ≤ 281474976710656) (hB : B ≤ w.heap.size) (hL : LibV B w) :
    Calls Tryd.prog 45 #[.string s] w (RetN w (pN s.data.toList)) := by
  have HL := hid hL
  obtain ⟨l, hl⟩ : ∃ l, s.data.toList = l := ⟨_, rfl⟩
  have HD := hid hl
  have hlen := dt_len s
  rw [hl] at hlen ⊢
  have hu := unS_le l
  have HT := hid (fun W => Tryd.strings_TrimPrefix s ⟨#[45]⟩ W)
  have HTV := hid (show (⟨(Lib.trimPrefix s.data.toList (⟨#[45]⟩ : ByteArray).data.toList).toArray⟩ : ByteArray).size = (unS l).length by rw [mk_size]; rw [hl]; exact congrArg List.length (trim_unS l))
  obtain ⟨T, hT⟩ : ∃ T, (⟨(Lib.trimPrefix s.data.toList (⟨#[45]⟩ : ByteArray).data.toList).toArray⟩ : ByteArray) = T := ⟨_, rfl⟩
  rw [hT] at HT HTV
  clear hT hl
  by_cases h17 : 17 < (unS l).length
  · have hTs : ((T.size : Nat) : Int) > 17 := by have := HTV.out; omega
    have hTn : 17 < T.size := by have := HTV.out; omega
    have HR := hid (pN_long h17)
    clear hL
    go_enter Tryd.func45, Tryd.ntmps45
    go_wp2_with fail
    refine (HT.out _).mono ?_
    rintro e wx ⟨rfl, rfl⟩
    go_wp2
    go_ret2
    exact ⟨by rw [HR.out]; rfl, Below.refl _ _⟩
  · have hTs : ¬ ((T.size : Nat) : Int) > 17 := by have := HTV.out; omega
    have hTn : ¬ 17 < T.size := by have := HTV.out; omega
    have hs18 : s.size ≤ 18 := by omega
    cases ha : Lib.atoi l with
    | none =>
      have HR := hid (pN_none ha)
      have HA := hid (show Lib.atoi s.data.toList = none by rw [HD.out]; exact ha)
      obtain ⟨-, -, ⟨ev, he1, he2⟩, -⟩ := hL
      have HE1 := hid he1
      have HE2 := hid he2
      clear he1 he2 ha
      go_enter Tryd.func45, Tryd.ntmps45
      go_wp2_with fail
      refine (HT.out _).mono ?_
      rintro e wx ⟨rfl, rfl⟩
      go_wp2_with fail
      refine (Tryd.strconv_Atoi_err s hs18 HA.out ev _ HE1.out HE2.out).mono ?_
      rintro e w1 ⟨N, rfl, -, -, b⟩
      go_wp2
      go_ret2
      exact ⟨by rw [HR.out]; rfl, b⟩
    | some n =>
      have HA := hid (show Lib.atoi s.data.toList = some n by rw [HD.out]; exact ha)
      have HB := hid (fun (h : Lib.itoa n = l) => pN_bd (pN_yes h17 ha h))
      have HSB := hid (same_bytes (n := n) (s := s))
      have HNO := hid (fun h => pN_other ha h)
      have HYES := hid (fun h => pN_yes h17 ha h)
      have HRG := hid (atoi_rg (l := l) (by omega) ha)
      clear ha hL
      go_enter Tryd.func45, Tryd.ntmps45
      go_wp2_with fail
      refine (HT.out _).mono ?_
      rintro e wx ⟨rfl, rfl⟩
      go_wp2_with fail
      refine (Tryd.strconv_Atoi s n hs18 HA.out _).mono ?_
      rintro e w1 ⟨rfl, t, hw1⟩
      have b1 := bytes_below wx 5 t
      rw [← hw1] at b1
      have HB1 := hid b1
      have HT1 := hid (HL.out.to b1 hB).1.here
      clear b1 hw1
      go_wp2_with fail
      refine (Tryd.strconv_Itoa n HRG.out.1 HRG.out.2 w1 HT1.out).mono ?_
      rintro e w2 ⟨he, k, os, hw2⟩
      have b2 : Below w1.heap.size w1 w2 := by rw [hw2]; exact Lib.below_grow _ w1 (Nat.le_refl _) k os
      have HB2 := hid b2
      replace he : e = .returned (.string (IT n)) := he
      subst he
      clear hw2 b2
      by_cases h : Lib.itoa n = l
      · have HR := hid (HYES.out h)
        have t2 : ((IT n).toList == s.toList) = true := by rw [HSB.out, HD.out]; simp [h]
        have hse : IT n = s := by_data (by rw [IT_data, HD.out, h])
        clear h
        go_wp2
        go_ret2
        exact ⟨by rw [HR.out]; rfl, HB1.out.trans (HB2.out.mono HB1.out.size)⟩
      · have HR := hid (HNO.out h)
        have t2 : ((IT n).toList == s.toList) = false := by rw [HSB.out, HD.out]; simp [h]
        clear h
        go_wp2
        go_ret2
        exact ⟨by rw [HR.out]; rfl, HB1.out.trans (HB2.out.mono HB1.out.size)⟩
theorem at_data {s : ByteArray} {i : Nat} (h : i < s.size) : s.data.toList[i]? = some (s[i]'h) := by
  rw [List.getElem?_eq_getElem (by rw [dt_len]; exact h)]
  rfl
theorem head_data {s : ByteArray} (h : 0 < s.size) : s.data.toList.head? = some (s[0]'h) := by rw [List.head?_eq_getElem?]; exact at_data h
theorem byte_eq {b : UInt8} {n : Nat} (hn : n < 256) : ((b.toNat : Int) == (n : Int)) = decide (b = UInt8.ofNat n) := by
  by_cases h : b = UInt8.ofNat n
  · have : b.toNat = n := by rw [h, UInt8.toNat_ofNat']; omega
    rw [this]; simp [h]
  · have h2 : b.toNat ≠ n := fun e => h (UInt8.toNat_inj.1 (by rw [UInt8.toNat_ofNat']; omega))
    simp [h]; omega
theorem drop_data (s : ByteArray) (j : Nat) : (s.extract j s.size).data.toList = s.data.toList.drop j := by
  rw [ByteArray.data_extract, Array.toList_extract, List.extract_eq_take_drop, List.take_of_length_le]
  rw [List.length_drop, dt_len]; exact Nat.le_refl _
/-- The digits' loop of the reference, and what it leaves: r the digits, neg the sign. -/
theorem df_step {l : List UInt8} {j : Nat} {b : UInt8} {n : Nat} (h : Lib.decFrom 0 (l.take j) = some n) (hb : l[j]? = some b) (h0 : 48 ≤ b.toNat) (h1 : b.toNat ≤ 57) : Lib.decFrom 0 (l.take (j + 1)) = some (n * 10 + (b.toNat - 48)) :=
  Lib.decFrom_take l j 0 n b (b.toNat - 48) h hb (by rw [Lib.digitVal, if_pos ⟨h0, h1⟩])
theorem df_lt {l : List UInt8} {k n : Nat} (h : Lib.decFrom 0 (l.take k) = some n) (hk : k ≤ l.length) : n < 10 ^ k := by
  have := Lib.decFrom_lt _ 0 n h
  rwa [Nat.zero_add, Nat.one_mul, List.length_take, Nat.min_eq_left hk] at this
theorem df_no {l : List UInt8} {j : Nat} {b : UInt8} (hb : l[j]? = some b) (h : b.toNat < 48 ∨ 57 < b.toNat) : ∀ m, Lib.decFrom 0 l ≠ some m := by
  intro m hm
  obtain ⟨d, hd⟩ := Lib.digit_of_decFrom l 0 m hm j b hb
  obtain ⟨h1, h2, _⟩ := Lib.digitVal_eq hd
  omega
set_option maxHeartbeats 3200000 in
theorem c_l9Num (s : ByteArray) (w : World) (hs : s.size ≤ 281474976710656) :
    Calls Tryd.prog 42 #[.string s] w (RetN w (pN s.data.toList)) := by
  obtain ⟨l, hl⟩ : ∃ l, s.data.toList = l := ⟨_, rfl⟩
  have HD := hid hl
  have hlen := dt_len s
  rw [hl] at hlen ⊢
  clear hl
  by_cases h0 : 0 < s.size
  · have hh := head_data h0
    rw [HD.out] at hh
    have q0 : (0 : Int) < s.size := by omega
    by_cases hneg : (s[0]'h0) = 45
    · have t0 : (((s[0]'h0).toNat : Int) == 45) = true := by rw [hneg]; rfl
      rw [hneg] at hh
      have HH := hid hh
      have HU := hid (show (s.extract 1 s.size).data.toList = unS l by rw [drop_data, HD.out, unS, if_pos HH.out])
      obtain ⟨r, hr⟩ : ∃ r, s.extract 1 s.size = r := ⟨_, rfl⟩
      have hrs : r.size = s.size - 1 := by rw [← hr, ByteArray.size_extract]; omega
      have q1 : (1 : Int) ≤ (s.size : Int) := by omega
      have HRR := hid hr
      rw [hr] at HU
      have HRS := hid hrs
      clear hh hneg hrs
      go_enter Tryd.func42, Tryd.ntmps42
      have hul : (unS l).length = r.size := by rw [← HU.out, dt_len]
      have HL0 := hid hul
      by_cases hz : r.size = 0
      · have HR := hid (show pN l = none by
          have hr0 : unS l = [] := List.length_eq_zero_iff.1 (by omega)
          have hx := pN_nodigit (l := l)
          cases hp : pN l with
          | none => rfl
          | some n =>
            exfalso
            have e := pN_text hp
            have hl1 := (unS_le l).2
            have hd : l = [45] := by
              have hhh := HH.out
              cases l with
              | nil => simp at hhh
              | cons x t =>
                simp at hhh
                subst hhh
                rw [unS_neg] at hr0
                rw [hr0]
            rw [hd, pN_sign] at hp
            cases hp)
        have tz : ((r.size : Int) == 0) = true := by rw [hz]; rfl
        have hz2 := hz
        clear hul
        go_wp2
        go_ret2
        exact ⟨by rw [HR.out]; rfl, Below.refl _ _⟩
      · have hp : 0 < r.size := by omega
        have tz : ((r.size : Int) == 0) = false := by rw [beq_eq_false_iff_ne]; omega
        by_cases h17 : 17 < r.size
        · have HR := hid (pN_long (l := l) (by omega))
          have t17 : ((r.size : Nat) : Int) > 17 := by omega
          clear hul
          go_wp2
          go_ret2
          exact ⟨by rw [HR.out]; rfl, Below.refl _ _⟩
        · have t17 : ¬ ((r.size : Nat) : Int) > 17 := by omega
          have hq : (0 : Int) < r.size := by omega
          have hhd := head_data hp
          rw [HU.out] at hhd
          by_cases hzero : (r[0]'hp) = 48
          · have t48 : (((r[0]'hp).toNat : Int) == 48) = true := by rw [hzero]; rfl
            rw [hzero] at hhd
            have HR := hid (pN_zero hhd (.inr HH.out))
            clear hhd hzero hul
            go_wp2
            all_goals (go_ret2; exact ⟨by rw [HR.out]; rfl, Below.refl _ _⟩)
          · have t48 : (((r[0]'hp).toNat : Int) == 48) = false := by
              rw [show (48 : Int) = ((48 : Nat) : Int) from rfl, byte_eq (by omega)]; simpa using hzero
            have HNZ := hid (show (unS l).head? = some 48 → (unS l).length = 1 ∧ l.head? ≠ some 45 from fun h => by rw [hhd] at h; simp at h; exact absurd h hzero)
            clear hhd hzero hul
            go_wp2
            go_loopw [5, 6] (fun x i wr => ∃ (j X : Nat), j ≤ r.size ∧ i = .int .i64 j ∧ x = .int .i64 X ∧ Hid (Lib.decFrom 0 ((unS l).take j) = some X) ∧ X < 10 ^ j ∧ w = wr) (fun _ i _ => r.size - (intOf i).toNat)
            case atStart => exact ⟨0, 0, Nat.zero_le _, rfl, rfl, by show _ = _; rfl, by omega, rfl⟩
            case round =>
              obtain ⟨j, X, hj, rfl, rfl, HX, hX, rfl⟩ := hrel
              have hXb : X < 100000000000000000 := Nat.lt_of_lt_of_le hX (Nat.pow_le_pow_right (by omega) (show j ≤ 17 by omega))
              clear hX
              by_cases hlt : j < r.size
              · have hb := at_data hlt
                rw [HU.out] at hb
                have HBJ := hid hb
                have k0 : (0 : Int) ≤ (j : Int) := by omega
                have k1 : (j : Int) < r.size := by omega
                clear hb
                by_cases hlo : (((r[j]'hlt).toNat : Nat) : Int) < 48
                · have HR := hid (pN_nodigit (df_no HBJ.out (by omega)))
                  go_wp2
                  go_ret2
                  exact ⟨by rw [HR.out]; rfl, Below.refl _ _⟩
                · by_cases hhi : (((r[j]'hlt).toNat : Nat) : Int) > 57
                  · have HR := hid (pN_nodigit (df_no HBJ.out (by omega)))
                    go_wp2
                    go_ret2
                    exact ⟨by rw [HR.out]; rfl, Below.refl _ _⟩
                  · have HN := hid (df_step HX.out HBJ.out (by omega) (by omega))
                    have hXn : X * 10 + ((r[j]'hlt).toNat - 48) < 10 ^ (j + 1) := df_lt HN.out (by rw [HL0.out]; omega)
                    have k5 : IntKind.u8.wrap (((r[j]'hlt).toNat : Int) - 48) = ((r[j]'hlt).toNat : Int) - 48 := IntWalk.u8_in _ (by omega)
                    have HXN := hid hXn
                    clear hXn
                    go_wp2
                    go_roundw
                    case rel => exact ⟨j + 1, X * 10 + ((r[j]'hlt).toNat - 48), by omega, by go_num, by first | go_num | (congr 1; omega) | (simp; omega), HN.out, HXN.out, trivial⟩
                    case measure => simp [intOf]; omega
              · obtain rfl : j = r.size := by omega
                have HF := hid (show Lib.decFrom 0 (unS l) = some X by
                  have h := HX.out
                  rwa [List.take_of_length_le (by rw [HL0.out]; exact Nat.le_refl _)] at h)
                have HR := hid (pN_num (l := l) (by rw [HL0.out]; exact h17) (by intro e; have := HL0.out; rw [e] at this; simp at this; omega) HF.out HNZ.out)
                rw [if_pos HH.out] at HR
                go_wp2
                go_ret2
                exact ⟨by rw [HR.out]; first | rfl | simp, Below.refl _ _⟩
    · have t0 : (((s[0]'h0).toNat : Int) == 45) = false := by
        rw [show (45 : Int) = ((45 : Nat) : Int) from rfl, byte_eq (by omega)]; simpa using hneg
      have HH := hid (show l.head? ≠ some 45 by rw [hh]; simpa using hneg)
      have HU := hid (show s.data.toList = unS l by rw [HD.out, unS_pos HH.out])
      clear hh hneg
      go_enter Tryd.func42, Tryd.ntmps42
      have hul : (unS l).length = s.size := by rw [← HU.out, dt_len]
      have HL0 := hid hul
      by_cases hz : s.size = 0
      · have HR := hid (show pN l = none by
          have hl0 : l = [] := List.length_eq_zero_iff.1 (by omega)
          rw [hl0]; exact pN_nil)
        have tz : ((s.size : Int) == 0) = true := by rw [hz]; rfl
        have hz2 := hz
        clear hul
        go_wp2
        go_ret2
        exact ⟨by rw [HR.out]; rfl, Below.refl _ _⟩
      · have hp : 0 < s.size := by omega
        have tz : ((s.size : Int) == 0) = false := by rw [beq_eq_false_iff_ne]; omega
        by_cases h17 : 17 < s.size
        · have HR := hid (pN_long (l := l) (by omega))
          have t17 : ((s.size : Nat) : Int) > 17 := by omega
          clear hul
          go_wp2
          go_ret2
          exact ⟨by rw [HR.out]; rfl, Below.refl _ _⟩
        · have t17 : ¬ ((s.size : Nat) : Int) > 17 := by omega
          have hq : (0 : Int) < s.size := by omega
          have hhd := head_data hp
          rw [HU.out] at hhd
          by_cases hzero : (s[0]'hp) = 48
          · have t48 : (((s[0]'hp).toNat : Int) == 48) = true := by rw [hzero]; rfl
            rw [hzero] at hhd
            by_cases h1 : 1 < s.size
            · have HR := hid (pN_zero hhd (.inl (by omega)))
              have t1 : ((s.size : Nat) : Int) > 1 := by omega
              clear hhd hzero hul
              go_wp2
              go_ret2
              exact ⟨by rw [HR.out]; rfl, Below.refl _ _⟩
            · have t1 : ¬ ((s.size : Nat) : Int) > 1 := by omega
              have HNZ := hid (show (unS l).head? = some 48 → (unS l).length = 1 ∧ l.head? ≠ some 45 from fun _ => ⟨by omega, HH.out⟩)
              clear hhd hzero hul
              go_wp2
              go_loopw [5, 6] (fun x i wr => ∃ (j X : Nat), j ≤ s.size ∧ i = .int .i64 j ∧ x = .int .i64 X ∧ Hid (Lib.decFrom 0 ((unS l).take j) = some X) ∧ X < 10 ^ j ∧ w = wr) (fun _ i _ => s.size - (intOf i).toNat)
              case atStart => exact ⟨0, 0, Nat.zero_le _, rfl, rfl, by show _ = _; rfl, by omega, rfl⟩
              case round =>
                obtain ⟨j, X, hj, rfl, rfl, HX, hX, rfl⟩ := hrel
                have hXb : X < 100000000000000000 := Nat.lt_of_lt_of_le hX (Nat.pow_le_pow_right (by omega) (show j ≤ 17 by omega))
                clear hX
                by_cases hlt : j < s.size
                · have hb := at_data hlt
                  rw [HU.out] at hb
                  have HBJ := hid hb
                  have k0 : (0 : Int) ≤ (j : Int) := by omega
                  have k1 : (j : Int) < s.size := by omega
                  clear hb
                  by_cases hlo : (((s[j]'hlt).toNat : Nat) : Int) < 48
                  · have HR := hid (pN_nodigit (df_no HBJ.out (by omega)))
                    go_wp2
                    go_ret2
                    exact ⟨by rw [HR.out]; rfl, Below.refl _ _⟩
                  · by_cases hhi : (((s[j]'hlt).toNat : Nat) : Int) > 57
                    · have HR := hid (pN_nodigit (df_no HBJ.out (by omega)))
                      go_wp2
                      go_ret2
                      exact ⟨by rw [HR.out]; rfl, Below.refl _ _⟩
                    · have HN := hid (df_step HX.out HBJ.out (by omega) (by omega))
                      have hXn : X * 10 + ((s[j]'hlt).toNat - 48) < 10 ^ (j + 1) := df_lt HN.out (by rw [HL0.out]; omega)
                      have k5 : IntKind.u8.wrap (((s[j]'hlt).toNat : Int) - 48) = ((s[j]'hlt).toNat : Int) - 48 := IntWalk.u8_in _ (by omega)
                      have HXN := hid hXn
                      clear hXn
                      go_wp2
                      go_roundw
                      case rel => exact ⟨j + 1, X * 10 + ((s[j]'hlt).toNat - 48), by omega, by go_num, by first | go_num | (congr 1; omega) | (simp; omega), HN.out, HXN.out, trivial⟩
                      case measure => simp [intOf]; omega
                · obtain rfl : j = s.size := by omega
                  have HF := hid (show Lib.decFrom 0 (unS l) = some X by
                    have h := HX.out
                    rwa [List.take_of_length_le (by rw [HL0.out]; exact Nat.le_refl _)] at h)
                  have HR := hid (pN_num (l := l) (by rw [HL0.out]; exact h17) (by intro e; have := HL0.out; rw [e] at this; simp at this; omega) HF.out HNZ.out)
                  rw [if_neg HH.out] at HR
                  go_wp2
                  go_ret2
                  exact ⟨by rw [HR.out]; first | rfl | simp, Below.refl _ _⟩
          · have t48 : (((s[0]'hp).toNat : Int) == 48) = false := by
              rw [show (48 : Int) = ((48 : Nat) : Int) from rfl, byte_eq (by omega)]; simpa using hzero
            have HNZ := hid (show (unS l).head? = some 48 → (unS l).length = 1 ∧ l.head? ≠ some 45 from fun h => by rw [hhd] at h; simp at h; exact absurd h hzero)
            clear hhd hzero hul
            go_wp2
            go_loopw [5, 6] (fun x i wr => ∃ (j X : Nat), j ≤ s.size ∧ i = .int .i64 j ∧ x = .int .i64 X ∧ Hid (Lib.decFrom 0 ((unS l).take j) = some X) ∧ X < 10 ^ j ∧ w = wr) (fun _ i _ => s.size - (intOf i).toNat)
            case atStart => exact ⟨0, 0, Nat.zero_le _, rfl, rfl, by show _ = _; rfl, by omega, rfl⟩
            case round =>
              obtain ⟨j, X, hj, rfl, rfl, HX, hX, rfl⟩ := hrel
              have hXb : X < 100000000000000000 := Nat.lt_of_lt_of_le hX (Nat.pow_le_pow_right (by omega) (show j ≤ 17 by omega))
              clear hX
              by_cases hlt : j < s.size
              · have hb := at_data hlt
                rw [HU.out] at hb
                have HBJ := hid hb
                have k0 : (0 : Int) ≤ (j : Int) := by omega
                have k1 : (j : Int) < s.size := by omega
                clear hb
                by_cases hlo : (((s[j]'hlt).toNat : Nat) : Int) < 48
                · have HR := hid (pN_nodigit (df_no HBJ.out (by omega)))
                  go_wp2
                  go_ret2
                  exact ⟨by rw [HR.out]; rfl, Below.refl _ _⟩
                · by_cases hhi : (((s[j]'hlt).toNat : Nat) : Int) > 57
                  · have HR := hid (pN_nodigit (df_no HBJ.out (by omega)))
                    go_wp2
                    go_ret2
                    exact ⟨by rw [HR.out]; rfl, Below.refl _ _⟩
                  · have HN := hid (df_step HX.out HBJ.out (by omega) (by omega))
                    have hXn : X * 10 + ((s[j]'hlt).toNat - 48) < 10 ^ (j + 1) := df_lt HN.out (by rw [HL0.out]; omega)
                    have k5 : IntKind.u8.wrap (((s[j]'hlt).toNat : Int) - 48) = ((s[j]'hlt).toNat : Int) - 48 := IntWalk.u8_in _ (by omega)
                    have HXN := hid hXn
                    clear hXn
                    go_wp2
                    go_roundw
                    case rel => exact ⟨j + 1, X * 10 + ((s[j]'hlt).toNat - 48), by omega, by go_num, by first | go_num | (congr 1; omega) | (simp; omega), HN.out, HXN.out, trivial⟩
                    case measure => simp [intOf]; omega
              · obtain rfl : j = s.size := by omega
                have HF := hid (show Lib.decFrom 0 (unS l) = some X by
                  have h := HX.out
                  rwa [List.take_of_length_le (by rw [HL0.out]; exact Nat.le_refl _)] at h)
                have HR := hid (pN_num (l := l) (by rw [HL0.out]; exact h17) (by intro e; have := HL0.out; rw [e] at this; simp at this; omega) HF.out HNZ.out)
                rw [if_neg HH.out] at HR
                go_wp2
                go_ret2
                exact ⟨by rw [HR.out]; first | rfl | simp, Below.refl _ _⟩
  · have hl0 : l = [] := List.length_eq_zero_iff.1 (by omega)
    have hs0 : s.size = 0 := by omega
    have HR := hid (show pN l = none by rw [hl0]; exact pN_nil)
    clear hl0
    go_enter Tryd.func42, Tryd.ntmps42
    go_wp2
    go_ret2
    exact ⟨by rw [HR.out]; rfl, Below.refl _ _⟩
end Go.Proofs.YtlinkeemccnfmaaDoor
