/- What is proved here: the text of errata as the reference writes it. -/
import Derived.Test.YtlinkeemccnfmaaDoorFmt1
import Derived.Test.YtlinkeemccnfmaaDoorTk
set_option linter.unusedVariables false
set_option linter.unusedSimpArgs false
set_option maxRecDepth 100000
namespace Go.Proofs.YtlinkeemccnfmaaDoor
open Go.RowKit

/-- The text of the i-th erratum. -/
def eB (zs : List Int) (i : Nat) : ByteArray := IT (el zs (i * 3)) ++ ⟨#[58]⟩ ++ IT (el zs (i * 3 + 1)) ++ ⟨#[62]⟩ ++ IT (el zs (i * 3 + 2))
/-- The text of the first k errata. -/
def fB (zs : List Int) : Nat → ByteArray
  | 0 => ⟨#[]⟩
  | k + 1 => (if k = 0 then fB zs k else fB zs k ++ ⟨#[59]⟩) ++ eB zs k
/-- The text of errata. -/
def FT (zs : List Int) : ByteArray := if EV zs then (if zs.length = 0 then ⟨#[45]⟩ else fB zs (zs.length / 3)) else ⟨#[]⟩
theorem IT_pos (n : Int) : 0 < (IT n).size := by
  have : (IT n).size = (Lib.itoa n).length := by simp [IT, ByteArray.size]
  rw [this, Lib.itoa]
  split
  · simp
  · rw [Lib.decDigits_length]; have := Lib.nDigits_pos n.toNat; omega
theorem eB_size {zs : List Int} (h : R64 zs) (i : Nat) : 0 < (eB zs i).size ∧ (eB zs i).size ≤ 65 := by
  have h0 := IT_size _ (h.at (i * 3)).1 (h.at (i * 3)).2
  have h1 := IT_size _ (h.at (i * 3 + 1)).1 (h.at (i * 3 + 1)).2
  have h2 := IT_size _ (h.at (i * 3 + 2)).1 (h.at (i * 3 + 2)).2
  have p0 := IT_pos (el zs (i * 3))
  have e58 : (⟨#[58]⟩ : ByteArray).size = 1 := rfl
  have e62 : (⟨#[62]⟩ : ByteArray).size = 1 := rfl
  simp only [eB, ByteArray.size_append, e58, e62]
  omega
theorem fB_size {zs : List Int} (h : R64 zs) (k : Nat) : (fB zs k).size ≤ 66 * k ∧ (0 < k → 0 < (fB zs k).size) := by
  have e59 : (⟨#[59]⟩ : ByteArray).size = 1 := rfl
  induction k with
  | zero => exact ⟨Nat.le_refl _, fun h => absurd h (by omega)⟩
  | succ k ih =>
    have he := eB_size h k
    rw [fB]
    split
    · rw [ByteArray.size_append]; omega
    · rw [ByteArray.size_append, ByteArray.size_append, e59]; omega
theorem fB_succ0 (zs : List Int) : fB zs 0 ++ IT (el zs (0 * 3)) ++ ⟨#[58]⟩ ++ IT (el zs (0 * 3 + 1)) ++ ⟨#[62]⟩ ++ IT (el zs (0 * 3 + 2)) = fB zs 1 := by
  rw [fB.eq_2, if_pos rfl, eB]
  simp only [ByteArray.append_assoc]
theorem fB_succ (zs : List Int) (j : Nat) (h : j ≠ 0) : fB zs j ++ ⟨#[59]⟩ ++ IT (el zs (j * 3)) ++ ⟨#[58]⟩ ++ IT (el zs (j * 3 + 1)) ++ ⟨#[62]⟩ ++ IT (el zs (j * 3 + 2)) = fB zs (j + 1) := by
  rw [fB.eq_2, if_neg h, eB]
  simp only [ByteArray.append_assoc]
theorem ev_at {zs : List Int} {n j : Nat} (hl : zs.length = n * 3) (h : EV zs = true) (hj : j < n) : (-1000000000000 ≤ el zs (j * 3) ∧ el zs (j * 3) ≤ 1000000000000) ∧ (-1000000000000 ≤ el zs (j * 3 + 1) ∧ el zs (j * 3 + 1) ≤ 1000000000000) ∧ (-1000000000000 ≤ el zs (j * 3 + 2) ∧ el zs (j * 3 + 2) ≤ 1000000000000) := by
  unfold EV at h
  rw [hl, Nat.mul_div_cancel _ (by omega)] at h
  have := e1B_iff.1 (evB_at h hj)
  omega
theorem FT_no {zs : List Int} (h : EV zs = false) : FT zs = ⟨#[]⟩ := by rw [FT, h]; rfl
theorem FT_yes {zs : List Int} {n : Nat} (hl : zs.length = n * 3) (h : EV zs = true) (hn : n ≠ 0) : FT zs = fB zs n := by
  rw [FT, h, if_pos rfl, if_neg (by omega), hl, Nat.mul_div_cancel _ (by omega)]
theorem FT_none {zs : List Int} (hl : zs.length = 0) : FT zs = ⟨#[45]⟩ := by
  have h : EV zs = true := by unfold EV; rw [hl]; rfl
  rw [FT, h, if_pos rfl, if_pos hl]

theorem is_empty : (⟨#[]⟩ : ByteArray).toList.isEmpty = true := by rw [ByteArray.toList_eq]; rfl
theorem not_empty {a : ByteArray} (h : 0 < a.size) : a.toList.isEmpty = false := by
  rw [ByteArray.toList_eq]
  cases a with
  | mk d =>
    cases hd : d.toList with
    | nil => rw [show d = #[] from Array.toList_inj.1 hd] at h; cases h
    | cons x l => simp [hd]
set_option maxHeartbeats 6400000 in
theorem c_FormatErrata (v : Value) (zs : List Int) (B : Nat) (w : World) (hB : B ≤ w.heap.size) (hl : zs.length ≤ 3145728) (hv : IsE w B v zs) :
    Calls Tryd.prog 7 #[v] w fun e w' => e = .returned (.string (FT zs)) ∧ Below w.heap.size w w' := by
  have HV := hid hv
  obtain ⟨n, a, cap, rfl, HL, hm, hr, hc⟩ := hv
  have hn : n ≤ 1048576 := by have := HL.out; omega
  have HR := hid hr
  have HC := hid hc
  unfold maxLen at hm
  clear hr hc hl
  cases hev : EV zs with
  | false =>
    have HF := hid (FT_no hev)
    have HE := hid hev
    clear hev
    go_enter Tryd.func7, Tryd.ntmps7
    go_wp2_with fail
    refine (c_l4Errata _ zs B _ hB HV.out).mono ?_
    rintro e w1 ⟨rfl, b⟩
    rw [HE.out]
    go_wp2
    go_ret
    exact ⟨by rw [HF.out]; rfl, b⟩
  | true =>
    have HE := hid hev
    clear hev
    go_enter Tryd.func7, Tryd.ntmps7
    go_wp2_with fail
    refine (c_l4Errata _ zs B _ hB HV.out).mono ?_
    rintro e w1 ⟨rfl, b1⟩
    rw [HE.out]
    go_wp2
    go_loopw [3, 4] (fun o i wr => ∃ j : Nat, j ≤ n ∧ i = .int .i64 j ∧ o = .string (fB zs j) ∧ Below w.heap.size w wr) (fun _ i _ => n - (intOf i).toNat)
    case atStart => exact ⟨0, Nat.zero_le _, rfl, rfl, b1⟩
    case round =>
      obtain ⟨j, hj, rfl, rfl, hbel⟩ := hrel
      have hbs := hbel.size
      have fs := fB_size HR.out j
      by_cases hlt : j < n
      · obtain ⟨b, off, rfl, hb, hcell⟩ := HC.out j hlt
        have hval := ev_at HL.out HE.out hlt
        have s0 := IT_size _ (HR.out.at (j * 3)).1 (HR.out.at (j * 3)).2
        have s1 := IT_size _ (HR.out.at (j * 3 + 1)).1 (HR.out.at (j * 3 + 1)).2
        have s2 := IT_size _ (HR.out.at (j * 3 + 2)).1 (HR.out.at (j * 3 + 2)).2
        have HK := hid (fun w' (hb' : Below w.heap.size w w') => (show (fun w' => w'.cell? ⟨b, off + j * 3, none⟩ = some (.int .i64 (el zs (j * 3))) ∧ w'.cell? ⟨b, off + j * 3 + 1, none⟩ = some (.int .i64 (el zs (j * 3 + 1))) ∧ w'.cell? ⟨b, off + j * 3 + 2, none⟩ = some (.int .i64 (el zs (j * 3 + 2)))) w' from ⟨(hb'.cell (p := ⟨b, off + j * 3, none⟩) (show b < w.heap.size by omega)).trans (hcell (j * 3) (by omega)), (hb'.cell (p := ⟨b, off + j * 3 + 1, none⟩) (show b < w.heap.size by omega)).trans (hcell (j * 3 + 1) (by omega)), (hb'.cell (p := ⟨b, off + j * 3 + 2, none⟩) (show b < w.heap.size by omega)).trans (hcell (j * 3 + 2) (by omega))⟩))
        have HVA := hid hval
        clear hcell hval
        have q0 : (0 : Int) ≤ (j : Int) := by omega
        have q1 : (j : Int) < n := by omega
        by_cases h0 : j = 0
        · have hp : ¬ (0 : Int) < (j : Int) := by omega
          have hp2 : ¬ 0 < j := by omega
          have z0 : ¬ 9223372036854775807 < (fB zs j).size + (IT (el zs (j * 3))).size := by omega
          have z1 : ¬ 9223372036854775807 < (fB zs j).size + (IT (el zs (j * 3))).size + 1 := by omega
          have z2 : ¬ 9223372036854775807 < (fB zs j).size + (IT (el zs (j * 3))).size + 1 + (IT (el zs (j * 3 + 1))).size := by omega
          have z3 : ¬ 9223372036854775807 < (fB zs j).size + (IT (el zs (j * 3))).size + 1 + (IT (el zs (j * 3 + 1))).size + 1 := by omega
          have z4 : ¬ 9223372036854775807 < (fB zs j).size + (IT (el zs (j * 3))).size + 1 + (IT (el zs (j * 3 + 1))).size + 1 + (IT (el zs (j * 3 + 2))).size := by omega
          have HBE := hid hbel
          have HS := hid (show fB zs j ++ IT (el zs (j * 3)) ++ ⟨#[58]⟩ ++ IT (el zs (j * 3 + 1)) ++ ⟨#[62]⟩ ++ IT (el zs (j * 3 + 2)) = fB zs (j + 1) by rw [h0]; exact fB_succ0 zs)
          clear h0
          go_wp2_with fail
          refine wp_region_held_drew (S := fun w' => w'.cell? ⟨b, off + j * 3, none⟩ = some (.int .i64 (el zs (j * 3))) ∧ w'.cell? ⟨b, off + j * 3 + 1, none⟩ = some (.int .i64 (el zs (j * 3 + 1))) ∧ w'.cell? ⟨b, off + j * 3 + 2, none⟩ = some (.int .i64 (el zs (j * 3 + 2)))) (by kernel_rfl) ?_ (fun hHeld => ?_)
          focus (exact HK.out _ hbel.drew)
          refine take_at (i := 0) (d := some 18) (v := ?_) rfl rfl (by kernel_rfl) (by kernel_rfl) (by kernel_rfl) ?_ (Or.inl ⟨by rfl, ?_⟩) (by assumption) ?_
          rotate_left
          exact fun _ _ _ h => h
          focus (intro w hSw; (try dsimp only at hSw); go_simp; (try with_reducible rfl); done)
          (try simp only [Act.put, List.setIfInBounds_toArray, List.set_cons_zero, List.set_cons_succ])
          refine take_at (i := 1) (d := some 19) (v := ?_) rfl rfl (by kernel_rfl) (by kernel_rfl) (by kernel_rfl) ?_ (Or.inl ⟨by rfl, ?_⟩) (by assumption) ?_
          rotate_left
          exact fun _ _ _ h => h
          focus (intro w hSw; (try dsimp only at hSw); go_simp; (try with_reducible rfl); done)
          (try simp only [Act.put, List.setIfInBounds_toArray, List.set_cons_zero, List.set_cons_succ])
          refine take_at (i := 2) (d := some 20) (v := ?_) rfl rfl (by kernel_rfl) (by kernel_rfl) (by kernel_rfl) ?_ (Or.inl ⟨by rfl, ?_⟩) (by assumption) ?_
          rotate_left
          exact fun _ _ _ h => h
          focus (intro w hSw; (try dsimp only at hSw); go_simp; (try with_reducible rfl); done)
          (try simp only [Act.put, List.setIfInBounds_toArray, List.set_cons_zero, List.set_cons_succ])
          refine take_at (i := 3) (d := some 21) (v := ?_) rfl rfl (by kernel_rfl) (by kernel_rfl) (by kernel_rfl) ?_ (Or.inl ⟨by rfl, ?_⟩) (by assumption) ?_
          rotate_left
          exact fun _ _ _ h => h
          focus (intro w hSw; (try dsimp only at hSw); go_simp; (try with_reducible rfl); done)
          (try simp only [Act.put, List.setIfInBounds_toArray, List.set_cons_zero, List.set_cons_succ])
          refine take_at (i := 4) (d := some 22) (v := ?_) rfl rfl (by kernel_rfl) (by kernel_rfl) (by kernel_rfl) ?_ (Or.inl ⟨by rfl, ?_⟩) (by assumption) ?_
          rotate_left
          exact fun _ _ _ h => h
          focus (intro w hSw; (try dsimp only at hSw); go_simp; (try with_reducible rfl); done)
          (try simp only [Act.put, List.setIfInBounds_toArray, List.set_cons_zero, List.set_cons_succ])
          refine take_at (i := 5) (d := some 23) (v := ?_) rfl rfl (by kernel_rfl) (by kernel_rfl) (by kernel_rfl) ?_ (Or.inl ⟨by rfl, ?_⟩) (by assumption) ?_
          rotate_left
          exact fun _ _ _ h => h
          focus (intro w hSw; (try dsimp only at hSw); go_simp; (try with_reducible rfl); done)
          (try simp only [Act.put, List.setIfInBounds_toArray, List.set_cons_zero, List.set_cons_succ])
          refine take_at (i := 9) (d := some 27) (v := ?_) rfl rfl (by kernel_rfl) (by kernel_rfl) (by kernel_rfl) ?_ (Or.inl ⟨by rfl, ?_⟩) (by assumption) ?_
          rotate_left
          exact fun _ _ _ h => h
          focus (intro w hSw; (try dsimp only at hSw); go_simp; (try with_reducible rfl); done)
          (try simp only [Act.put, List.setIfInBounds_toArray, List.set_cons_zero, List.set_cons_succ])
          refine take_at (i := 10) (d := some 28) (v := ?_) rfl rfl (by kernel_rfl) (by kernel_rfl) (by kernel_rfl) ?_ (Or.inl ⟨by rfl, ?_⟩) (by assumption) ?_
          rotate_left
          exact fun _ _ _ h => h
          focus (intro w hSw; (try dsimp only at hSw); go_simp; (try with_reducible rfl); done)
          (try simp only [Act.put, List.setIfInBounds_toArray, List.set_cons_zero, List.set_cons_succ])
          refine take_at (i := 11) (d := some 29) (v := ?_) rfl rfl (by kernel_rfl) (by kernel_rfl) (by kernel_rfl) ?_ (Or.inl ⟨by rfl, ?_⟩) (by assumption) ?_
          rotate_left
          exact fun _ _ _ h => h
          focus (intro w hSw; (try dsimp only at hSw); go_simp; (try with_reducible rfl); done)
          (try simp only [Act.put, List.setIfInBounds_toArray, List.set_cons_zero, List.set_cons_succ])
          refine take_at (i := 12) (d := some 30) (v := ?_) rfl rfl (by kernel_rfl) (by kernel_rfl) (by kernel_rfl) ?_ (Or.inl ⟨by rfl, ?_⟩) (by assumption) ?_
          rotate_left
          exact fun _ _ _ h => h
          focus (intro w hSw; (try dsimp only at hSw); go_simp; (try with_reducible rfl); done)
          (try simp only [Act.put, List.setIfInBounds_toArray, List.set_cons_zero, List.set_cons_succ])
          refine take_at (i := 13) (d := some 31) (v := ?_) rfl rfl (by kernel_rfl) (by kernel_rfl) (by kernel_rfl) ?_ (Or.inl ⟨by rfl, ?_⟩) (by assumption) ?_
          rotate_left
          exact fun _ _ _ h => h
          focus (intro w hSw; (try dsimp only at hSw); go_simp; (try with_reducible rfl); done)
          (try simp only [Act.put, List.setIfInBounds_toArray, List.set_cons_zero, List.set_cons_succ])
          refine take_at (i := 17) (d := some 35) (v := ?_) rfl rfl (by kernel_rfl) (by kernel_rfl) (by kernel_rfl) ?_ (Or.inl ⟨by rfl, ?_⟩) (by assumption) ?_
          rotate_left
          exact fun _ _ _ h => h
          focus (intro w hSw; (try dsimp only at hSw); go_simp; (try with_reducible rfl); done)
          (try simp only [Act.put, List.setIfInBounds_toArray, List.set_cons_zero, List.set_cons_succ])
          refine take_at (i := 18) (d := some 36) (v := ?_) rfl rfl (by kernel_rfl) (by kernel_rfl) (by kernel_rfl) ?_ (Or.inl ⟨by rfl, ?_⟩) (by assumption) ?_
          rotate_left
          exact fun _ _ _ h => h
          focus (intro w hSw; (try dsimp only at hSw); go_simp; (try with_reducible rfl); done)
          (try simp only [Act.put, List.setIfInBounds_toArray, List.set_cons_zero, List.set_cons_succ])
          refine take_at (i := 19) (d := some 37) (v := ?_) rfl rfl (by kernel_rfl) (by kernel_rfl) (by kernel_rfl) ?_ (Or.inl ⟨by rfl, ?_⟩) (by assumption) ?_
          rotate_left
          exact fun _ _ _ h => h
          focus (intro w hSw; (try dsimp only at hSw); go_simp; (try with_reducible rfl); done)
          (try simp only [Act.put, List.setIfInBounds_toArray, List.set_cons_zero, List.set_cons_succ])
          refine take_at (i := 20) (d := some 38) (v := ?_) rfl rfl (by kernel_rfl) (by kernel_rfl) (by kernel_rfl) ?_ (Or.inl ⟨by rfl, ?_⟩) (by assumption) ?_
          rotate_left
          exact fun _ _ _ h => h
          focus (intro w hSw; (try dsimp only at hSw); go_simp; (try with_reducible rfl); done)
          (try simp only [Act.put, List.setIfInBounds_toArray, List.set_cons_zero, List.set_cons_succ])
          refine take_at (i := 21) (d := some 39) (v := ?_) rfl rfl (by kernel_rfl) (by kernel_rfl) (by kernel_rfl) ?_ (Or.inl ⟨by rfl, ?_⟩) (by assumption) ?_
          rotate_left
          exact fun _ _ _ h => h
          focus (intro w hSw; (try dsimp only at hSw); go_simp; (try with_reducible rfl); done)
          (try simp only [Act.put, List.setIfInBounds_toArray, List.set_cons_zero, List.set_cons_succ])
          refine wpAnyH_ready (rs := [6]) (by kernel_rfl) (by simp) ?_
          refine AllReadyH.cons (o := _) rfl (fun K hK => ?_) AllReadyH.nil
          go_simp
          refine (c_l9Dec _ _ HVA.out.1.1 HVA.out.1.2).mono ?_
          rintro e w9 ⟨rfl, b9⟩
          have bb9 := hbel.drew.trans (b9.mono hbel.drew.size)
          refine hK.out _ _ ?_ (fun hHeld => ?_)
          focus (exact HK.out _ bb9)
          clear hK
          (try simp only [Act.put, List.setIfInBounds_toArray, List.set_cons_zero, List.set_cons_succ])
          refine take_at (i := 7) (d := some 25) (v := ?_) rfl rfl (by kernel_rfl) (by kernel_rfl) (by kernel_rfl) ?_ (Or.inl ⟨by rfl, ?_⟩) (by assumption) ?_
          rotate_left
          exact fun _ _ _ h => h
          focus (intro w hSw; (try dsimp only at hSw); go_simp; (try with_reducible rfl); done)
          (try simp only [Act.put, List.setIfInBounds_toArray, List.set_cons_zero, List.set_cons_succ])
          refine take_at (i := 8) (d := some 26) (v := ?_) rfl rfl (by kernel_rfl) (by kernel_rfl) (by kernel_rfl) ?_ (Or.inl ⟨by rfl, ?_⟩) (by assumption) ?_
          rotate_left
          exact fun _ _ _ h => h
          focus (intro w hSw; (try dsimp only at hSw); go_simp; (try with_reducible rfl); done)
          (try simp only [Act.put, List.setIfInBounds_toArray, List.set_cons_zero, List.set_cons_succ])
          refine wpAnyH_ready (rs := [14]) (by kernel_rfl) (by simp) ?_
          refine AllReadyH.cons (o := _) rfl (fun K hK => ?_) AllReadyH.nil
          go_simp
          refine (c_l9Dec _ _ HVA.out.2.1.1 HVA.out.2.1.2).mono ?_
          rintro e w10 ⟨rfl, b10⟩
          have bb10 := bb9.trans (b10.mono bb9.size)
          refine hK.out _ _ ?_ (fun hHeld => ?_)
          focus (exact HK.out _ bb10)
          clear hK
          (try simp only [Act.put, List.setIfInBounds_toArray, List.set_cons_zero, List.set_cons_succ])
          refine take_at (i := 15) (d := some 33) (v := ?_) rfl rfl (by kernel_rfl) (by kernel_rfl) (by kernel_rfl) ?_ (Or.inl ⟨by rfl, ?_⟩) (by assumption) ?_
          rotate_left
          exact fun _ _ _ h => h
          focus (intro w hSw; (try dsimp only at hSw); go_simp; (try with_reducible rfl); done)
          (try simp only [Act.put, List.setIfInBounds_toArray, List.set_cons_zero, List.set_cons_succ])
          refine take_at (i := 16) (d := some 34) (v := ?_) rfl rfl (by kernel_rfl) (by kernel_rfl) (by kernel_rfl) ?_ (Or.inl ⟨by rfl, ?_⟩) (by assumption) ?_
          rotate_left
          exact fun _ _ _ h => h
          focus (intro w hSw; (try dsimp only at hSw); go_simp; (try with_reducible rfl); done)
          (try simp only [Act.put, List.setIfInBounds_toArray, List.set_cons_zero, List.set_cons_succ])
          refine wpAnyH_ready (rs := [22]) (by kernel_rfl) (by simp) ?_
          refine AllReadyH.cons (o := _) rfl (fun K hK => ?_) AllReadyH.nil
          go_simp
          refine (c_l9Dec _ _ HVA.out.2.2.1 HVA.out.2.2.2).mono ?_
          rintro e w11 ⟨rfl, b11⟩
          have bb11 := bb10.trans (b11.mono bb10.size)
          refine hK.out _ _ ?_ (fun hHeld => ?_)
          focus (exact HK.out _ bb11)
          clear hK
          (try simp only [Act.put, List.setIfInBounds_toArray, List.set_cons_zero, List.set_cons_succ])
          refine take_at (i := 23) (d := some 41) (v := ?_) rfl rfl (by kernel_rfl) (by kernel_rfl) (by kernel_rfl) ?_ (Or.inl ⟨by rfl, ?_⟩) (by assumption) ?_
          rotate_left
          exact fun _ _ _ h => h
          focus (intro w hSw; (try dsimp only at hSw); go_simp; (try with_reducible rfl); done)
          (try simp only [Act.put, List.setIfInBounds_toArray, List.set_cons_zero, List.set_cons_succ])
          refine take_at (i := 24) (d := some 3) (v := ?_) rfl rfl (by kernel_rfl) (by kernel_rfl) (by kernel_rfl) ?_ (Or.inl ⟨by rfl, ?_⟩) (by assumption) ?_
          rotate_left
          exact fun _ _ _ h => h
          focus (intro w hSw; (try dsimp only at hSw); go_simp; (try with_reducible rfl); done)
          (try simp only [Act.put, List.setIfInBounds_toArray, List.set_cons_zero, List.set_cons_succ])
          refine wpAnyH_done (by kernel_rfl) ?_ _
          go_wp2
          go_roundw
          case rel => exact ⟨j + 1, by omega, by go_num, by rw [HS.out], bb11⟩
          case measure => simp [intOf]; omega
        · have hp : (0 : Int) < (j : Int) := by omega
          have hp2 : 0 < j := by omega
          have hs0 : ¬ (9223372036854775807 < (fB zs j).size + 1) := by omega
          have hs1 : ¬ (9223372036854775807 < (fB zs j).size + (⟨#[59]⟩ : ByteArray).size) := hs0
          have z0 : ¬ 9223372036854775807 < (fB zs j).size + 1 + (IT (el zs (j * 3))).size := by omega
          have z1 : ¬ 9223372036854775807 < (fB zs j).size + 1 + (IT (el zs (j * 3))).size + 1 := by omega
          have z2 : ¬ 9223372036854775807 < (fB zs j).size + 1 + (IT (el zs (j * 3))).size + 1 + (IT (el zs (j * 3 + 1))).size := by omega
          have z3 : ¬ 9223372036854775807 < (fB zs j).size + 1 + (IT (el zs (j * 3))).size + 1 + (IT (el zs (j * 3 + 1))).size + 1 := by omega
          have z4 : ¬ 9223372036854775807 < (fB zs j).size + 1 + (IT (el zs (j * 3))).size + 1 + (IT (el zs (j * 3 + 1))).size + 1 + (IT (el zs (j * 3 + 2))).size := by omega
          have HBE := hid hbel
          have HS := hid (fB_succ zs j h0)
          clear h0
          go_wp2_with fail
          refine wp_region_held_drew (S := fun w' => w'.cell? ⟨b, off + j * 3, none⟩ = some (.int .i64 (el zs (j * 3))) ∧ w'.cell? ⟨b, off + j * 3 + 1, none⟩ = some (.int .i64 (el zs (j * 3 + 1))) ∧ w'.cell? ⟨b, off + j * 3 + 2, none⟩ = some (.int .i64 (el zs (j * 3 + 2)))) (by kernel_rfl) ?_ (fun hHeld => ?_)
          focus (exact HK.out _ hbel.drew)
          refine take_at (i := 0) (d := some 18) (v := ?_) rfl rfl (by kernel_rfl) (by kernel_rfl) (by kernel_rfl) ?_ (Or.inl ⟨by rfl, ?_⟩) (by assumption) ?_
          rotate_left
          exact fun _ _ _ h => h
          focus (intro w hSw; (try dsimp only at hSw); go_simp; (try with_reducible rfl); done)
          (try simp only [Act.put, List.setIfInBounds_toArray, List.set_cons_zero, List.set_cons_succ])
          refine take_at (i := 1) (d := some 19) (v := ?_) rfl rfl (by kernel_rfl) (by kernel_rfl) (by kernel_rfl) ?_ (Or.inl ⟨by rfl, ?_⟩) (by assumption) ?_
          rotate_left
          exact fun _ _ _ h => h
          focus (intro w hSw; (try dsimp only at hSw); go_simp; (try with_reducible rfl); done)
          (try simp only [Act.put, List.setIfInBounds_toArray, List.set_cons_zero, List.set_cons_succ])
          refine take_at (i := 2) (d := some 20) (v := ?_) rfl rfl (by kernel_rfl) (by kernel_rfl) (by kernel_rfl) ?_ (Or.inl ⟨by rfl, ?_⟩) (by assumption) ?_
          rotate_left
          exact fun _ _ _ h => h
          focus (intro w hSw; (try dsimp only at hSw); go_simp; (try with_reducible rfl); done)
          (try simp only [Act.put, List.setIfInBounds_toArray, List.set_cons_zero, List.set_cons_succ])
          refine take_at (i := 3) (d := some 21) (v := ?_) rfl rfl (by kernel_rfl) (by kernel_rfl) (by kernel_rfl) ?_ (Or.inl ⟨by rfl, ?_⟩) (by assumption) ?_
          rotate_left
          exact fun _ _ _ h => h
          focus (intro w hSw; (try dsimp only at hSw); go_simp; (try with_reducible rfl); done)
          (try simp only [Act.put, List.setIfInBounds_toArray, List.set_cons_zero, List.set_cons_succ])
          refine take_at (i := 4) (d := some 22) (v := ?_) rfl rfl (by kernel_rfl) (by kernel_rfl) (by kernel_rfl) ?_ (Or.inl ⟨by rfl, ?_⟩) (by assumption) ?_
          rotate_left
          exact fun _ _ _ h => h
          focus (intro w hSw; (try dsimp only at hSw); go_simp; (try with_reducible rfl); done)
          (try simp only [Act.put, List.setIfInBounds_toArray, List.set_cons_zero, List.set_cons_succ])
          refine take_at (i := 5) (d := some 23) (v := ?_) rfl rfl (by kernel_rfl) (by kernel_rfl) (by kernel_rfl) ?_ (Or.inl ⟨by rfl, ?_⟩) (by assumption) ?_
          rotate_left
          exact fun _ _ _ h => h
          focus (intro w hSw; (try dsimp only at hSw); go_simp; (try with_reducible rfl); done)
          (try simp only [Act.put, List.setIfInBounds_toArray, List.set_cons_zero, List.set_cons_succ])
          refine take_at (i := 9) (d := some 27) (v := ?_) rfl rfl (by kernel_rfl) (by kernel_rfl) (by kernel_rfl) ?_ (Or.inl ⟨by rfl, ?_⟩) (by assumption) ?_
          rotate_left
          exact fun _ _ _ h => h
          focus (intro w hSw; (try dsimp only at hSw); go_simp; (try with_reducible rfl); done)
          (try simp only [Act.put, List.setIfInBounds_toArray, List.set_cons_zero, List.set_cons_succ])
          refine take_at (i := 10) (d := some 28) (v := ?_) rfl rfl (by kernel_rfl) (by kernel_rfl) (by kernel_rfl) ?_ (Or.inl ⟨by rfl, ?_⟩) (by assumption) ?_
          rotate_left
          exact fun _ _ _ h => h
          focus (intro w hSw; (try dsimp only at hSw); go_simp; (try with_reducible rfl); done)
          (try simp only [Act.put, List.setIfInBounds_toArray, List.set_cons_zero, List.set_cons_succ])
          refine take_at (i := 11) (d := some 29) (v := ?_) rfl rfl (by kernel_rfl) (by kernel_rfl) (by kernel_rfl) ?_ (Or.inl ⟨by rfl, ?_⟩) (by assumption) ?_
          rotate_left
          exact fun _ _ _ h => h
          focus (intro w hSw; (try dsimp only at hSw); go_simp; (try with_reducible rfl); done)
          (try simp only [Act.put, List.setIfInBounds_toArray, List.set_cons_zero, List.set_cons_succ])
          refine take_at (i := 12) (d := some 30) (v := ?_) rfl rfl (by kernel_rfl) (by kernel_rfl) (by kernel_rfl) ?_ (Or.inl ⟨by rfl, ?_⟩) (by assumption) ?_
          rotate_left
          exact fun _ _ _ h => h
          focus (intro w hSw; (try dsimp only at hSw); go_simp; (try with_reducible rfl); done)
          (try simp only [Act.put, List.setIfInBounds_toArray, List.set_cons_zero, List.set_cons_succ])
          refine take_at (i := 13) (d := some 31) (v := ?_) rfl rfl (by kernel_rfl) (by kernel_rfl) (by kernel_rfl) ?_ (Or.inl ⟨by rfl, ?_⟩) (by assumption) ?_
          rotate_left
          exact fun _ _ _ h => h
          focus (intro w hSw; (try dsimp only at hSw); go_simp; (try with_reducible rfl); done)
          (try simp only [Act.put, List.setIfInBounds_toArray, List.set_cons_zero, List.set_cons_succ])
          refine take_at (i := 17) (d := some 35) (v := ?_) rfl rfl (by kernel_rfl) (by kernel_rfl) (by kernel_rfl) ?_ (Or.inl ⟨by rfl, ?_⟩) (by assumption) ?_
          rotate_left
          exact fun _ _ _ h => h
          focus (intro w hSw; (try dsimp only at hSw); go_simp; (try with_reducible rfl); done)
          (try simp only [Act.put, List.setIfInBounds_toArray, List.set_cons_zero, List.set_cons_succ])
          refine take_at (i := 18) (d := some 36) (v := ?_) rfl rfl (by kernel_rfl) (by kernel_rfl) (by kernel_rfl) ?_ (Or.inl ⟨by rfl, ?_⟩) (by assumption) ?_
          rotate_left
          exact fun _ _ _ h => h
          focus (intro w hSw; (try dsimp only at hSw); go_simp; (try with_reducible rfl); done)
          (try simp only [Act.put, List.setIfInBounds_toArray, List.set_cons_zero, List.set_cons_succ])
          refine take_at (i := 19) (d := some 37) (v := ?_) rfl rfl (by kernel_rfl) (by kernel_rfl) (by kernel_rfl) ?_ (Or.inl ⟨by rfl, ?_⟩) (by assumption) ?_
          rotate_left
          exact fun _ _ _ h => h
          focus (intro w hSw; (try dsimp only at hSw); go_simp; (try with_reducible rfl); done)
          (try simp only [Act.put, List.setIfInBounds_toArray, List.set_cons_zero, List.set_cons_succ])
          refine take_at (i := 20) (d := some 38) (v := ?_) rfl rfl (by kernel_rfl) (by kernel_rfl) (by kernel_rfl) ?_ (Or.inl ⟨by rfl, ?_⟩) (by assumption) ?_
          rotate_left
          exact fun _ _ _ h => h
          focus (intro w hSw; (try dsimp only at hSw); go_simp; (try with_reducible rfl); done)
          (try simp only [Act.put, List.setIfInBounds_toArray, List.set_cons_zero, List.set_cons_succ])
          refine take_at (i := 21) (d := some 39) (v := ?_) rfl rfl (by kernel_rfl) (by kernel_rfl) (by kernel_rfl) ?_ (Or.inl ⟨by rfl, ?_⟩) (by assumption) ?_
          rotate_left
          exact fun _ _ _ h => h
          focus (intro w hSw; (try dsimp only at hSw); go_simp; (try with_reducible rfl); done)
          (try simp only [Act.put, List.setIfInBounds_toArray, List.set_cons_zero, List.set_cons_succ])
          refine wpAnyH_ready (rs := [6]) (by kernel_rfl) (by simp) ?_
          refine AllReadyH.cons (o := _) rfl (fun K hK => ?_) AllReadyH.nil
          go_simp
          refine (c_l9Dec _ _ HVA.out.1.1 HVA.out.1.2).mono ?_
          rintro e w9 ⟨rfl, b9⟩
          have bb9 := hbel.drew.trans (b9.mono hbel.drew.size)
          refine hK.out _ _ ?_ (fun hHeld => ?_)
          focus (exact HK.out _ bb9)
          clear hK
          (try simp only [Act.put, List.setIfInBounds_toArray, List.set_cons_zero, List.set_cons_succ])
          refine take_at (i := 7) (d := some 25) (v := ?_) rfl rfl (by kernel_rfl) (by kernel_rfl) (by kernel_rfl) ?_ (Or.inl ⟨by rfl, ?_⟩) (by assumption) ?_
          rotate_left
          exact fun _ _ _ h => h
          focus (intro w hSw; (try dsimp only at hSw); go_simp; (try with_reducible rfl); done)
          (try simp only [Act.put, List.setIfInBounds_toArray, List.set_cons_zero, List.set_cons_succ])
          refine take_at (i := 8) (d := some 26) (v := ?_) rfl rfl (by kernel_rfl) (by kernel_rfl) (by kernel_rfl) ?_ (Or.inl ⟨by rfl, ?_⟩) (by assumption) ?_
          rotate_left
          exact fun _ _ _ h => h
          focus (intro w hSw; (try dsimp only at hSw); go_simp; (try with_reducible rfl); done)
          (try simp only [Act.put, List.setIfInBounds_toArray, List.set_cons_zero, List.set_cons_succ])
          refine wpAnyH_ready (rs := [14]) (by kernel_rfl) (by simp) ?_
          refine AllReadyH.cons (o := _) rfl (fun K hK => ?_) AllReadyH.nil
          go_simp
          refine (c_l9Dec _ _ HVA.out.2.1.1 HVA.out.2.1.2).mono ?_
          rintro e w10 ⟨rfl, b10⟩
          have bb10 := bb9.trans (b10.mono bb9.size)
          refine hK.out _ _ ?_ (fun hHeld => ?_)
          focus (exact HK.out _ bb10)
          clear hK
          (try simp only [Act.put, List.setIfInBounds_toArray, List.set_cons_zero, List.set_cons_succ])
          refine take_at (i := 15) (d := some 33) (v := ?_) rfl rfl (by kernel_rfl) (by kernel_rfl) (by kernel_rfl) ?_ (Or.inl ⟨by rfl, ?_⟩) (by assumption) ?_
          rotate_left
          exact fun _ _ _ h => h
          focus (intro w hSw; (try dsimp only at hSw); go_simp; (try with_reducible rfl); done)
          (try simp only [Act.put, List.setIfInBounds_toArray, List.set_cons_zero, List.set_cons_succ])
          refine take_at (i := 16) (d := some 34) (v := ?_) rfl rfl (by kernel_rfl) (by kernel_rfl) (by kernel_rfl) ?_ (Or.inl ⟨by rfl, ?_⟩) (by assumption) ?_
          rotate_left
          exact fun _ _ _ h => h
          focus (intro w hSw; (try dsimp only at hSw); go_simp; (try with_reducible rfl); done)
          (try simp only [Act.put, List.setIfInBounds_toArray, List.set_cons_zero, List.set_cons_succ])
          refine wpAnyH_ready (rs := [22]) (by kernel_rfl) (by simp) ?_
          refine AllReadyH.cons (o := _) rfl (fun K hK => ?_) AllReadyH.nil
          go_simp
          refine (c_l9Dec _ _ HVA.out.2.2.1 HVA.out.2.2.2).mono ?_
          rintro e w11 ⟨rfl, b11⟩
          have bb11 := bb10.trans (b11.mono bb10.size)
          refine hK.out _ _ ?_ (fun hHeld => ?_)
          focus (exact HK.out _ bb11)
          clear hK
          (try simp only [Act.put, List.setIfInBounds_toArray, List.set_cons_zero, List.set_cons_succ])
          refine take_at (i := 23) (d := some 41) (v := ?_) rfl rfl (by kernel_rfl) (by kernel_rfl) (by kernel_rfl) ?_ (Or.inl ⟨by rfl, ?_⟩) (by assumption) ?_
          rotate_left
          exact fun _ _ _ h => h
          focus (intro w hSw; (try dsimp only at hSw); go_simp; (try with_reducible rfl); done)
          (try simp only [Act.put, List.setIfInBounds_toArray, List.set_cons_zero, List.set_cons_succ])
          refine take_at (i := 24) (d := some 3) (v := ?_) rfl rfl (by kernel_rfl) (by kernel_rfl) (by kernel_rfl) ?_ (Or.inl ⟨by rfl, ?_⟩) (by assumption) ?_
          rotate_left
          exact fun _ _ _ h => h
          focus (intro w hSw; (try dsimp only at hSw); go_simp; (try with_reducible rfl); done)
          (try simp only [Act.put, List.setIfInBounds_toArray, List.set_cons_zero, List.set_cons_succ])
          refine wpAnyH_done (by kernel_rfl) ?_ _
          go_wp2
          go_roundw
          case rel => exact ⟨j + 1, by omega, by go_num, by rw [HS.out], bb11⟩
          case measure => simp [intOf]; omega
      · obtain rfl : j = n := by omega
        by_cases h0 : j = 0
        · have HF := hid (FT_none (zs := zs) (by rw [HL.out]; omega))
          have he : (fB zs j).toList.isEmpty = true := by rw [h0]; exact is_empty
          have HBE := hid h0
          clear h0
          go_wp2
          go_ret
          exact ⟨by rw [HF.out]; rfl, hbel⟩
        · have HF := hid (FT_yes HL.out HE.out h0)
          have hne := not_empty (fs.2 (by omega))
          go_wp2
          go_ret
          exact ⟨by rw [HF.out]; rfl, hbel⟩
end Go.Proofs.YtlinkeemccnfmaaDoor
