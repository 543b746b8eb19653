/- What is proved here: slices of errata (three ints each, read as one flat list of ints) and the contracts of the laws' helpers on them. -/
import Derived.Test.YtlinkeemccnfmaaDoorLaws1
import Derived.Deep.RegionHeld3
import Derived.Deep.AppendLies
import Derived.Laws.StructEq
set_option linter.unusedVariables false
set_option linter.unusedSimpArgs false
namespace Go.Proofs.YtlinkeemccnfmaaDoor
open Go.RowKit

theorem Tryd.infoErr : (Tryd.prog.info? 40).map (fun i => (i.zero, i.size, i.bytes)) = some (some (.agg #[.int .i64 0, .int .i64 0, .int .i64 0]), 3, 24) := by kernel_rfl

/-- The value v reads in w as errata whose numbers, one after the other, are zs. -/
def IsE (w : World) (B : Nat) (v : Value) (zs : List Int) : Prop :=
  ∃ n a cap, v = .slice a n cap ∧ Hid (zs.length = n * 3) ∧ (n ≤ cap ∧ cap ≤ maxLen ∧ Hid (a = none → cap = 0)) ∧ R64 zs ∧
   ∀ i, i < n → ∃ b off, a = some ⟨b, off, none⟩ ∧ b < B ∧ ∀ j, j < n * 3 → w.cell? ⟨b, off + j, none⟩ = some (.int .i64 (el zs j))
theorem IsE.below {w w' : World} {B B' : Nat} {v : Value} {zs : List Int} (h : IsE w B v zs) (hb : Below B' w w') (hB : B ≤ B') : IsE w' B v zs := by
  obtain ⟨n, a, cap, rfl, hl, hm, hr, hc⟩ := h
  refine ⟨n, a, cap, rfl, hl, hm, hr, fun i hi => ?_⟩
  obtain ⟨b, off, rfl, hbB, hcell⟩ := hc i hi
  exact ⟨b, off, rfl, hbB, fun j hj => (hb.cell (p := ⟨b, off + j, none⟩) (show b < B' by omega)).trans (hcell j hj)⟩
theorem IsE.chg {w w' : World} {B lo hi : Nat} {v : Value} {zs : List Int} (h : IsE w B v zs) (hb : Chg lo hi w w') (hB : B ≤ lo ∨ hi ≤ lo) (hs : B ≤ w.heap.size) : IsE w' B v zs :=
  h.below (hb.below hB hs) (Nat.le_refl _)
theorem IsE.up {w : World} {B B' : Nat} {v : Value} {zs : List Int} (h : IsE w B v zs) (hB : B ≤ B') : IsE w B' v zs := by
  obtain ⟨n, a, cap, rfl, hl, hm, hr, hc⟩ := h
  exact ⟨n, a, cap, rfl, hl, hm, hr, fun i hi => by obtain ⟨b, off, rfl, hbB, hcell⟩ := hc i hi; exact ⟨b, off, rfl, by omega, hcell⟩⟩
theorem IsE.drewN {w : World} {B : Nat} {v : Value} {zs : List Int} (h : IsE w B v zs) (n : Nat) : IsE (w.drewN n) B v zs := h
theorem IsE.range {w : World} {B : Nat} {v : Value} {zs : List Int} (h : IsE w B v zs) : R64 zs := by
  obtain ⟨n, a, cap, rfl, hl, hm, hr, hc⟩ := h; exact hr
theorem chg_bel0 {w w' : World} {lo hi : Nat} (h : Below w.heap.size w w') : Chg lo hi w w' := ⟨h.os, h.tape, h.output, h.size, fun k hk _ => h.block k hk⟩
/-- v is nil, or a slice over the head of a block of its own from lo on and below hi, of errata whose numbers are zs. -/
def RwE (w : World) (lo hi : Nat) (v : Value) (zs : List Int) : Prop :=
  ∃ n, Hid (zs.length = n * 3) ∧ w.ownsRow lo 40 3 v n (zs.map (Value.int .i64)) ∧ (∀ k, v.ownBlock = some k → k < hi) ∧ R64 zs
/-- The same without a bound above. -/
def OwnE (w : World) (lo : Nat) (v : Value) (n : Nat) (zs : List Int) : Prop := w.ownsRow lo 40 3 v n (zs.map (Value.int .i64))
theorem OwnE.nil (w : World) (B : Nat) : OwnE w B (.slice none 0 0) 0 [] := World.ownsRow_nil _ _ _ _
theorem OwnE.empty (w : World) {B : Nat} {c : Array Value} (hB : B ≤ w.heap.size) (hc : c = #[]) : OwnE (w.alloc (.cells c 40)) B (.slice (some ⟨w.heap.size, 0, none⟩) 0 0) 0 [] := by
  subst hc; exact World.ownsRow_made w #[] 0 hB (by unfold maxLen; omega) (by simp)
theorem OwnE.rw {w : World} {B hi n : Nat} {v : Value} {zs : List Int} (h : OwnE w B v n zs) (hl : zs.length = n * 3) (hr : R64 zs) (hh : w.heap.size ≤ hi) : RwE w B hi v zs :=
  ⟨n, hl, h, fun k hk => Nat.lt_of_lt_of_le (h.lt k hk).2 hh, hr⟩
theorem OwnE.below {w w' : World} {B B' n : Nat} {v : Value} {zs : List Int} (h : OwnE w B v n zs) (hb : Below B' w w') (hs : w.heap.size ≤ B') : OwnE w' B v n zs :=
  ownsRow_of_block h fun k hk => hb.block k (by have := (h.lt k hk).2; omega)
theorem RwE.keep {w w' : World} {lo hi lo' hi' : Nat} {v : Value} {zs : List Int} (h : RwE w lo hi v zs) (hc : Chg lo' hi' w w') (hd : hi ≤ lo' ∨ hi' ≤ lo) : RwE w' lo hi v zs := by
  obtain ⟨n, hl, ho, hk, hr⟩ := h
  refine ⟨n, hl, ownsRow_of_block ho fun k hk' => ?_, hk, hr⟩
  have h1 := ho.lt k hk'
  have h2 := hk k hk'
  exact hc.block k h1.2 (by omega)
theorem RwE.below {w w' : World} {lo hi B : Nat} {v : Value} {zs : List Int} (h : RwE w lo hi v zs) (hc : Below B w w') (hd : hi ≤ B) : RwE w' lo hi v zs := by
  obtain ⟨n, hl, ho, hk, hr⟩ := h
  refine ⟨n, hl, ownsRow_of_block ho fun k hk' => ?_, hk, hr⟩
  have h2 := hk k hk'
  exact hc.block k (by omega)
theorem RwE.range {w : World} {lo hi : Nat} {v : Value} {zs : List Int} (h : RwE w lo hi v zs) : R64 zs := by
  obtain ⟨n, hl, ho, hk, hr⟩ := h; exact hr
theorem RwE.isI {w : World} {lo hi : Nat} {v : Value} {zs : List Int} (h : RwE w lo hi v zs) : IsE w hi v zs := by
  obtain ⟨n, hl, ho, hk, hr⟩ := h
  rcases ho.2 with ⟨rfl, hn⟩ | ⟨g, cap, cur, rfl, hbg, hgg, hnc, hcm, hcs, hct⟩
  · exact ⟨0, none, 0, rfl, by have := hl.out; show _ = _; omega, ⟨Nat.zero_le _, Nat.zero_le _, fun _ => rfl⟩, hr, fun i hi => by omega⟩
  · refine ⟨n, _, cap, rfl, hl, ⟨hnc, hcm, fun h => by cases h⟩, hr, fun i hi => ⟨g, 0, rfl, hk g rfl, fun j hj => ?_⟩⟩
    rw [Nat.zero_add, row_cell hgg, ← map_int_at zs j (by rw [hl.out]; omega), ← hct, List.getElem?_take, if_pos (by omega), Array.getElem?_toList]
/-- The list's numbers in threes. -/
theorem take3 {xs ys : List Int} {j n : Nat} (hj : j < n) (hx : xs.length = n * 3) (hy : ys.length = n * 3) (h : xs.take (j * 3) = ys.take (j * 3)) (h0 : el xs (j * 3) = el ys (j * 3)) (h1 : el xs (j * 3 + 1) = el ys (j * 3 + 1)) (h2 : el xs (j * 3 + 2) = el ys (j * 3 + 2)) :
    xs.take ((j + 1) * 3) = ys.take ((j + 1) * 3) := by
  rw [show (j + 1) * 3 = j * 3 + 1 + 1 + 1 by omega]
  exact take_eq_succ (by omega) (by omega) (take_eq_succ (by omega) (by omega) (take_eq_succ (by omega) (by omega) h h0) h1) h2

theorem cell_u {w w' : World} {b o : Nat} {v : Value} (h : w.cell? ⟨b, o, none⟩ = some v) (hb : Below w.drew.heap.size w.drew w') : w'.cell? ⟨b, o, none⟩ = some v :=
  (hb.cell (p := ⟨b, o, none⟩) (World.block_lt_of_cell? _ _ h)).trans h
theorem cells6 {w w' : World} {b o b' o' : Nat} {v0 v1 v2 u0 u1 u2 : Value} (hb : Below w.drew.heap.size w.drew w') (h0 : w.cell? ⟨b, o, none⟩ = some v0) (h1 : w.cell? ⟨b, o + 1, none⟩ = some v1) (h2 : w.cell? ⟨b, o + 2, none⟩ = some v2)
    (k0 : w.cell? ⟨b', o', none⟩ = some u0) (k1 : w.cell? ⟨b', o' + 1, none⟩ = some u1) (k2 : w.cell? ⟨b', o' + 2, none⟩ = some u2) :
    w'.cell? ⟨b, o, none⟩ = some v0 ∧ w'.cell? ⟨b, o + 1, none⟩ = some v1 ∧ w'.cell? ⟨b, o + 2, none⟩ = some v2 ∧ w'.cell? ⟨b', o', none⟩ = some u0 ∧ w'.cell? ⟨b', o' + 1, none⟩ = some u1 ∧ w'.cell? ⟨b', o' + 2, none⟩ = some u2 :=
  ⟨cell_u h0 hb, cell_u h1 hb, cell_u h2 hb, cell_u k0 hb, cell_u k1 hb, cell_u k2 hb⟩
theorem c_eqErratum (a b c d e f : Int) (w : World) :
    Calls Tryd.prog 24 #[.agg #[.int .i64 a, .int .i64 b, .int .i64 c], .agg #[.int .i64 d, .int .i64 e, .int .i64 f]] w fun en w' => en = .returned (.bool (decide (a = d ∧ b = e ∧ c = f))) ∧ Below w.heap.size w w' := by
  have HD := hid (show (a = d ∧ b = e ∧ c = f) → decide (a = d ∧ b = e ∧ c = f) = true from fun h => by simpa using h)
  have HN := hid (show ¬ (a = d ∧ b = e ∧ c = f) → decide (a = d ∧ b = e ∧ c = f) = false from fun h => by simpa using h)
  generalize decide (a = d ∧ b = e ∧ c = f) = D at *
  by_cases h1 : a = d
  · have k1 : (a != d) = false := by simpa using h1
    by_cases h2 : b = e
    · have k2 : (b != e) = false := by simpa using h2
      by_cases h3 : c = f
      · have k3 : (c != f) = false := by simpa using h3
        have H := hid (HD.out ⟨h1, h2, h3⟩)
        clear h1 h2 h3
        go_enter Tryd.func24, Tryd.ntmps24
        go_wp2
        go_ret
        exact ⟨retB H.out.symm, ((Below.refl _ _).alloc (Nat.le_refl _) _).alloc (by simp) _⟩
      · have k3 : (c != f) = true := by simpa using h3
        have H := hid (HN.out (fun h => h3 h.2.2))
        clear h1 h2 h3
        go_enter Tryd.func24, Tryd.ntmps24
        go_wp2
        go_ret
        exact ⟨retB H.out.symm, ((Below.refl _ _).alloc (Nat.le_refl _) _).alloc (by simp) _⟩
    · have k2 : (b != e) = true := by simpa using h2
      have H := hid (HN.out (fun h => h2 h.2.1))
      clear h1 h2
      go_enter Tryd.func24, Tryd.ntmps24
      go_wp2
      go_ret
      exact ⟨retB H.out.symm, ((Below.refl _ _).alloc (Nat.le_refl _) _).alloc (by simp) _⟩
  · have k1 : (a != d) = true := by simpa using h1
    have H := hid (HN.out (fun h => h1 h.1))
    clear h1
    go_enter Tryd.func24, Tryd.ntmps24
    go_wp2
    go_ret
    exact ⟨retB H.out.symm, ((Below.refl _ _).alloc (Nat.le_refl _) _).alloc (by simp) _⟩
theorem eqErrs (v u : Value) (xs ys : List Int) (B B' : Nat) (w : World) (hB : B ≤ w.heap.size) (hB' : B' ≤ w.heap.size) (hv : IsE w B v xs) (hu : IsE w B' u ys) :
    Calls Tryd.prog 10 #[v, u] w fun e w' => e = .returned (.bool (eqL xs ys)) ∧ Below w.heap.size w w' := by
  obtain ⟨n, a, cap, rfl, HX, hm, hr, hc⟩ := hv
  obtain ⟨n', a', cap', rfl, HY, hm', hr', hc'⟩ := hu
  unfold maxLen at hm hm'
  by_cases hl : n = n'
  · subst hl
    have hl1 : ((n : Int) != (n : Int)) = false := by simp
    clear hr hr'
    go_enter Tryd.func10, Tryd.ntmps10
    go_wp2
    go_loopw [5] (fun i wr => ∃ j : Nat, j ≤ n ∧ i = .int .i64 j ∧ Hid (xs.take (j * 3) = ys.take (j * 3)) ∧ Below w.heap.size w wr) (fun i wr => n - (intOf i).toNat)
    case atStart => exact ⟨0, Nat.zero_le _, rfl, by show _ = _; simp, Below.refl _ _⟩
    case round =>
      obtain ⟨j, hj, rfl, HT, hbel⟩ := hrel
      by_cases hlt : j < n
      · obtain ⟨b, off, rfl, hb, hcell⟩ := hc j hlt
        obtain ⟨b', off', rfl, hb', hcell'⟩ := hc' j hlt
        have g0 := (hbel.cell (p := ⟨b, off + j * 3, none⟩) (show b < w.heap.size by omega)).trans (hcell (j * 3) (by omega))
        have g1 := (hbel.cell (p := ⟨b, off + j * 3 + 1, none⟩) (show b < w.heap.size by omega)).trans (hcell (j * 3 + 1) (by omega))
        have g2 := (hbel.cell (p := ⟨b, off + j * 3 + 2, none⟩) (show b < w.heap.size by omega)).trans (hcell (j * 3 + 2) (by omega))
        have d0 := (hbel.cell (p := ⟨b', off' + j * 3, none⟩) (show b' < w.heap.size by omega)).trans (hcell' (j * 3) (by omega))
        have d1 := (hbel.cell (p := ⟨b', off' + j * 3 + 1, none⟩) (show b' < w.heap.size by omega)).trans (hcell' (j * 3 + 1) (by omega))
        have d2 := (hbel.cell (p := ⟨b', off' + j * 3 + 2, none⟩) (show b' < w.heap.size by omega)).trans (hcell' (j * 3 + 2) (by omega))
        have q0 : 0 ≤ (j : Int) := by omega
        have q1 : (j : Int) < n := by omega
        clear hc hc' hcell hcell'
        by_cases he : el xs (j * 3) = el ys (j * 3) ∧ el xs (j * 3 + 1) = el ys (j * 3 + 1) ∧ el xs (j * 3 + 2) = el ys (j * 3 + 2)
        · have hd : decide (el xs (j * 3) = el ys (j * 3) ∧ el xs (j * 3 + 1) = el ys (j * 3 + 1) ∧ el xs (j * 3 + 2) = el ys (j * 3 + 2)) = true := by simpa using he
          have HTN := hid (take3 hlt HX.out HY.out HT.out he.1 he.2.1 he.2.2)
          clear he
          go_wp2_with fail
          go_region_held3 (fun w' => w'.cell? ⟨b, off + j * 3, none⟩ = some (.int .i64 (el xs (j * 3))) ∧ w'.cell? ⟨b, off + j * 3 + 1, none⟩ = some (.int .i64 (el xs (j * 3 + 1))) ∧ w'.cell? ⟨b, off + j * 3 + 2, none⟩ = some (.int .i64 (el xs (j * 3 + 2))) ∧ w'.cell? ⟨b', off' + j * 3, none⟩ = some (.int .i64 (el ys (j * 3))) ∧ w'.cell? ⟨b', off' + j * 3 + 1, none⟩ = some (.int .i64 (el ys (j * 3 + 1))) ∧ w'.cell? ⟨b', off' + j * 3 + 2, none⟩ = some (.int .i64 (el ys (j * 3 + 2))))
            (first | exact ⟨g0, g1, g2, d0, d1, d2⟩ | exact HK.out | go_keep)
            ((go_at_call 24; refine (c_eqErratum _ _ _ _ _ _ _).mono ?_; rw [hd]; rintro e w9 ⟨rfl, b9⟩; have HK := hid (cells6 b9 g0 g1 g2 d0 d1 d2)))
          have b10 := hbel.drew.trans (b9.mono (by have := hbel.size; show w.heap.size ≤ wr.heap.size; omega))
          clear HK b9
          go_wp2
          go_roundw
          case rel => exact ⟨j + 1, by omega, by go_num, HTN, b10⟩
          case measure => simp [intOf]; omega
        · have hd : decide (el xs (j * 3) = el ys (j * 3) ∧ el xs (j * 3 + 1) = el ys (j * 3 + 1) ∧ el xs (j * 3 + 2) = el ys (j * 3 + 2)) = false := by simpa using he
          have HNE := hid (show eqL xs ys = false by
            have h3 : el xs (j * 3) ≠ el ys (j * 3) ∨ el xs (j * 3 + 1) ≠ el ys (j * 3 + 1) ∨ el xs (j * 3 + 2) ≠ el ys (j * 3 + 2) := by omega
            rcases h3 with h3 | h3 | h3 <;> exact eqL_at h3)
          clear he
          go_wp2_with fail
          go_region_held3 (fun w' => w'.cell? ⟨b, off + j * 3, none⟩ = some (.int .i64 (el xs (j * 3))) ∧ w'.cell? ⟨b, off + j * 3 + 1, none⟩ = some (.int .i64 (el xs (j * 3 + 1))) ∧ w'.cell? ⟨b, off + j * 3 + 2, none⟩ = some (.int .i64 (el xs (j * 3 + 2))) ∧ w'.cell? ⟨b', off' + j * 3, none⟩ = some (.int .i64 (el ys (j * 3))) ∧ w'.cell? ⟨b', off' + j * 3 + 1, none⟩ = some (.int .i64 (el ys (j * 3 + 1))) ∧ w'.cell? ⟨b', off' + j * 3 + 2, none⟩ = some (.int .i64 (el ys (j * 3 + 2))))
            (first | exact ⟨g0, g1, g2, d0, d1, d2⟩ | exact HK.out | go_keep)
            ((go_at_call 24; refine (c_eqErratum _ _ _ _ _ _ _).mono ?_; rw [hd]; rintro e w9 ⟨rfl, b9⟩; have HK := hid (cells6 b9 g0 g1 g2 d0 d1 d2)))
          have b10 := hbel.drew.trans (b9.mono (by have := hbel.size; show w.heap.size ≤ wr.heap.size; omega))
          clear HK b9
          go_wp2
          go_ret
          exact ⟨retB HNE.out.symm, b10⟩
      · obtain rfl : j = n := by omega
        clear hc hc'
        go_wp2
        go_ret
        exact ⟨retB (eqL_all (by rw [HX.out, HY.out]) (Nat.le_of_eq HX.out) HT.out).symm, hbel⟩
  · have hl1 : ((n : Int) != (n' : Int)) = true := by simpa using (by omega : ¬ (n : Int) = n')
    have HNE := hid (eqL_len (xs := xs) (ys := ys) (by have := HX.out; have := HY.out; omega))
    clear hl hc hc' hr hr'
    go_enter Tryd.func10, Tryd.ntmps10
    go_wp2
    go_ret
    exact ⟨retB HNE.out.symm, Below.refl _ _⟩
/-- Two that read as one list: true, told as a change of nothing. -/
theorem eqSameErr (v u : Value) (xs : List Int) (B B' : Nat) (w : World) (hB : B ≤ w.heap.size) (hB' : B' ≤ w.heap.size) (hv : IsE w B v xs) (hu : IsE w B' u xs) :
    Calls Tryd.prog 10 #[v, u] w fun e w' => e = .returned (.bool true) ∧ Chg 0 0 w w' :=
  (eqErrs v u xs xs B B' w hB hB' hv hu).mono fun e w' ⟨he, hw⟩ => ⟨by rw [he, eqL_self], chg_bel0 hw⟩
theorem heldErrs (v : Value) (k : Int) (m B : Nat) (w : World) (h0 : 0 ≤ k) (hk : k + m ≤ 4611686018427387904) (hv : IsE w B v (marks k m)) :
    Calls Tryd.prog 14 #[v, .int .i64 k] w fun e w' => e = .returned (.int .i64 (k + m)) ∧ w = w' := by
  obtain ⟨n, a, cap, rfl, HL, hm, hr, hc⟩ := hv
  have hl := HL.out
  rw [marks_len] at hl
  subst hl
  unfold maxLen at hm
  have hk' : k + (n : Int) * 3 ≤ 4611686018427387904 := by omega
  clear hr hk HL
  go_enter Tryd.func14, Tryd.ntmps14
  go_wp2
  go_loop [1, 5] (fun m i => ∃ j : Nat, j ≤ n ∧ i = .int .i64 j ∧ m = .int .i64 (k + (j : Int) * 3)) (fun _ i => n - (intOf i).toNat)
  case atStart => exact ⟨0, Nat.zero_le _, rfl, retI' (by omega)⟩
  case round =>
    obtain ⟨j, hj, rfl, rfl⟩ := hrel
    by_cases hlt : j < n
    · obtain ⟨b, off, rfl, hb, hcell⟩ := hc j hlt
      have g0 := hcell (j * 3) (by omega)
      have g1 : w.cell? ⟨b, off + j * 3 + 1, none⟩ = some (.int .i64 (el (marks k (n * 3)) (j * 3 + 1))) := hcell (j * 3 + 1) (by omega)
      have g2 : w.cell? ⟨b, off + j * 3 + 2, none⟩ = some (.int .i64 (el (marks k (n * 3)) (j * 3 + 2))) := hcell (j * 3 + 2) (by omega)
      rw [marks_el _ _ _ (by omega), show ((j * 3 : Nat) : Int) = (j : Int) * 3 by omega] at g0
      rw [marks_el _ _ _ (by omega), show k + ((j * 3 + 1 : Nat) : Int) = k + (j : Int) * 3 + 1 by omega] at g1
      rw [marks_el _ _ _ (by omega), show k + ((j * 3 + 2 : Nat) : Int) = k + (j : Int) * 3 + 1 + 1 by omega] at g2
      clear hc hcell
      have q0 : k + (j : Int) * 3 + 3 ≤ 4611686018427387904 := by omega
      have q1 : 0 ≤ k + (j : Int) * 3 := by omega
      generalize hz : k + (j : Int) * 3 = z at *
      have HZ := hid hz
      clear hz
      have t0 : (z != z) = false := by simp
      have t1 : (z + 1 != z + 1) = false := by simp
      have t2 : (z + 1 + 1 != z + 1 + 1) = false := by simp
      go_wp2
      go_round
      case rel => exact ⟨j + 1, by omega, by go_num, retI' (by have := HZ.out; omega)⟩
      case measure => simp [intOf]; omega
    · clear hc
      obtain rfl : j = n := by omega
      go_wp2
      go_ret
      exact ⟨retI (by omega), rfl⟩
theorem heldErr (v : Value) (k m : Int) (n lo hi : Nat) (w : World) (h0 : 0 ≤ k) (hk : k + n ≤ 4611686018427387904) (hm : m = k + n) (hv : RwE w lo hi v (marks k n)) :
    Calls Tryd.prog 14 #[v, .int .i64 k] w fun e w' => e = .returned (.int .i64 m) ∧ w = w' := by
  subst hm; exact heldErrs v k n hi w h0 hk hv.isI
theorem own_of_flat {w : World} {lo g n cap s : Nat} {cur : Array Value} {e : TypeId} {zs : List Value} (hg : w.heap[g]? = some (.cells cur e (0, 0))) (hl : lo ≤ g) (hn : n ≤ cap) (hm : cap ≤ maxLen)
    (hs : cur.size = cap * s) (hx : zs.length = n * s) (h : ∀ i, i < n * s → cur[i]? = zs[i]?) : w.ownsRow lo e s (.slice (some ⟨g, 0, none⟩) n cap) n zs := by
  refine ⟨by omega, .inr ⟨g, cap, cur, rfl, hl, hg, hn, hm, by omega, ?_⟩⟩
  apply List.ext_getElem?
  intro i
  rw [List.getElem?_take]
  split
  · rename_i hi; rw [Array.getElem?_toList]; exact h i hi
  · rename_i hi; rw [List.getElem?_eq_none (by omega)]
theorem mark3 {j : Nat} {k z : Int} {cur : Array Value} (hs : j * 3 + 2 < cur.size) (hz : k + ((j * 3 : Nat) : Int) = z) (h : ∀ i, i < j * 3 → cur[i]? = some (.int .i64 (k + i))) :
    ∀ i, i < (j + 1) * 3 → (((cur.setIfInBounds (j * 3) (.int .i64 z)).setIfInBounds (j * 3 + 1) (.int .i64 (z + 1))).setIfInBounds (j * 3 + 2) (.int .i64 (z + 1 + 1)))[i]? = some (.int .i64 (k + i)) := by
  have h1 := marks_step (k := k) (j := j * 3) (by omega) h
  have h2 := marks_step (k := k) (j := j * 3 + 1) (by simp; omega) h1
  have h3 := marks_step (k := k) (j := j * 3 + 1 + 1) (by simp; omega) h2
  intro i hi
  have := h3 i (by omega)
  rw [← hz]
  have e1 : k + ((j * 3 : Nat) : Int) + 1 = k + ((j * 3 + 1 : Nat) : Int) := by omega
  have e2 : k + ((j * 3 : Nat) : Int) + 1 + 1 = k + ((j * 3 + 1 + 1 : Nat) : Int) := by omega
  rw [e1, show k + ((j * 3 + 1 : Nat) : Int) + 1 = k + ((j * 3 + 1 + 1 : Nat) : Int) by omega]
  exact this
theorem put1 {j : Nat} {xs : List Int} {cur : Array Value} (hs : j < cur.size) (h : ∀ i, i < j → cur[i]? = some (.int .i64 (el xs i))) : ∀ i, i < j + 1 → (cur.setIfInBounds j (.int .i64 (el xs j)))[i]? = some (.int .i64 (el xs i)) := by
  intro i hi
  rw [Array.getElem?_setIfInBounds]
  by_cases e : j = i
  · subst e; simp [hs]
  · rw [if_neg e]; exact h i (by omega)
theorem put3 {j : Nat} {xs : List Int} {cur : Array Value} (hs : j * 3 + 2 < cur.size) (h : ∀ i, i < j * 3 → cur[i]? = some (.int .i64 (el xs i))) :
    ∀ i, i < (j + 1) * 3 → (((cur.setIfInBounds (j * 3) (.int .i64 (el xs (j * 3)))).setIfInBounds (j * 3 + 1) (.int .i64 (el xs (j * 3 + 1)))).setIfInBounds (j * 3 + 2) (.int .i64 (el xs (j * 3 + 2))))[i]? = some (.int .i64 (el xs i)) := by
  intro i hi
  exact put1 (by simp; omega) (put1 (by simp; omega) (put1 (by omega) h)) i (by omega)
theorem markErr (v : Value) (xs : List Int) (k : Int) (lo hi : Nat) (w : World) (h0 : 0 ≤ k) (hk : k + xs.length ≤ 4611686018427387904) (hv : RwE w lo hi v xs) :
    Calls Tryd.prog 13 #[v, .int .i64 k] w fun e w' => e = .returned (.int .i64 (k + xs.length)) ∧ RwE w' lo hi v (marks k xs.length) ∧ Chg lo hi w w' := by
  obtain ⟨n, HL, ho, hb, hr⟩ := hv
  have hk' : k + (n : Int) * 3 ≤ 4611686018427387904 := by have := HL.out; omega
  have hlen : (xs.length : Int) = (n : Int) * 3 := by have := HL.out; omega
  have HLEN := hid hlen
  rcases ho.2 with ⟨rfl, hn⟩ | ⟨g, cap, cur, rfl, hbg, hgg, hnc, hcm, hcs, _⟩
  · subst hn
    have hx : xs = [] := List.eq_nil_of_length_eq_zero (by have := HL.out; omega)
    subst hx
    clear ho hb hr hk hk' hlen
    go_enter Tryd.func13, Tryd.ntmps13
    go_wp2
    refine wp_loop_rounds 1 ?_
    rw [rounds_succ]
    go_wp2
    go_ret
    exact ⟨retI (by simp), ⟨0, rfl, OwnE.nil _ _, fun k hk => by simp [Value.ownBlock] at hk, R64.nil⟩, Chg.refl _ _ _⟩
  · have hgh : g < hi := hb g rfl
    have HCS := hid hcs
    clear ho hb hr hlen hk hcs
    go_enter Tryd.func13, Tryd.ntmps13
    go_wp2
    go_loopw [1, 5] (fun m i wr => ∃ (j : Nat) (cur' : Array Value), j ≤ n ∧ i = .int .i64 j ∧ m = .int .i64 (k + (j : Int) * 3) ∧ Hid (wr.heap[g]? = some (.cells cur' 40 (0, 0))) ∧ Hid (cur'.size = cap * 3) ∧
      Hid (∀ i, i < j * 3 → cur'[i]? = some (.int .i64 (k + i))) ∧ Chg lo hi w wr) (fun _ i _ => n - (intOf i).toNat)
    case atStart => exact ⟨0, cur, Nat.zero_le _, rfl, retI' (by omega), hgg, HCS, fun i hi => by omega, Chg.refl _ _ _⟩
    case round =>
      obtain ⟨j, cur', hj, rfl, rfl, HG, HS, HA, hchg⟩ := hrel
      by_cases hlt : j < n
      · have hs3 : j * 3 + 2 < cur'.size := by rw [HS.out]; omega
        have c0 : wr.cell? ⟨g, j * 3, none⟩ = some (cur'[j * 3]'(by omega)) := by rw [row_cell HG.out, Array.getElem?_eq_getElem (by omega)]
        have c1 : wr.cell? ⟨g, j * 3 + 1, none⟩ = some (cur'[j * 3 + 1]'(by omega)) := by rw [row_cell HG.out, Array.getElem?_eq_getElem (by omega)]
        have c2 : wr.cell? ⟨g, j * 3 + 2, none⟩ = some (cur'[j * 3 + 2]'(by omega)) := by rw [row_cell HG.out, Array.getElem?_eq_getElem (by omega)]
        have f0 := row_free HG.out (j * 3)
        have f1 := row_free HG.out (j * 3 + 1)
        have f2 := row_free HG.out (j * 3 + 2)
        have q0 : k + (j : Int) * 3 + 3 ≤ 4611686018427387904 := by omega
        have q1 : 0 ≤ k + (j : Int) * 3 := by omega
        generalize hz : k + (j : Int) * 3 = z at *
        have HZ := hid hz
        clear hz
        go_wp2
        go_roundw
        case rel =>
          exact ⟨j + 1, _, by omega, by go_num, retI' (by have := HZ.out; omega), row_set (row_set (row_set HG.out _ _) _ _) _ _, by show _ = _; simpa using HS.out,
            mark3 (by have := HS.out; omega) (by rw [show ((j * 3 : Nat) : Int) = (j : Int) * 3 by omega]; exact HZ.out) HA.out, ((hchg.setCell hbg hgh _).setCell hbg hgh _).setCell hbg hgh _⟩
        case measure => simp [intOf]; omega
      · obtain rfl : j = n := by omega
        go_wp2
        go_ret
        refine ⟨retI (by rw [HLEN.out]), ⟨j, by show _ = _; rw [marks_len]; exact HL.out, ?_, fun b hb => by simp [Value.ownBlock] at hb; omega, R64.marks (by omega) (by rw [HLEN.out]; omega)⟩, hchg⟩
        refine own_of_flat HG.out hbg hnc hcm HS.out (by simp [marks_len]; exact HL.out) fun i hi => ?_
        rw [HA.out i hi, map_int_at _ _ (by rw [marks_len, HL.out]; exact hi), marks_el _ _ _ (by rw [HL.out]; exact hi)]
theorem c_toErratum (a b c : Int) (w : World) :
    Calls Tryd.prog 20 #[.agg #[.int .i64 a, .int .i64 b, .int .i64 c]] w fun en w' => en = .returned (.agg #[.int .i64 a, .int .i64 b, .int .i64 c]) ∧ Below w.heap.size w w' := by
  go_enter Tryd.func20, Tryd.ntmps20
  go_wp2
  refine bodyPost_ret (v := .agg #[.int .i64 a, .int .i64 b, .int .i64 c]) (by simp [results, Tryd.results20, go_sem]) rfl ?_
  exact ⟨rfl, (((Below.refl _ _).alloc (Nat.le_refl _) _).alloc (by simp) _).alloc (by simp; omega) _⟩
theorem made3 (m : Nat) : madeCells #[Value.int .i64 0, .int .i64 0, .int .i64 0] m = ((List.replicate m (0 : Int)).map (Value.int .i64)).toArray := by
  apply Array.ext'
  unfold madeCells
  apply List.ext_getElem
  · simp
  · intro i h1 h2
    simp
    have : i % 3 = 0 ∨ i % 3 = 1 ∨ i % 3 = 2 := by omega
    rcases this with h | h | h <;> rw [h] <;> rfl
theorem mk_errs (n : Nat) (hn : n ≤ 1099511627776) (W : World) :
    (Instr.makeSlice 25 (.int .i64 n) (.int .i64 n)).run Tryd.prog W = .ok (.slice (some ⟨W.heap.size, 0, none⟩) n n) (W.alloc (.cells (madeCells #[.int .i64 0, .int .i64 0, .int .i64 0] (n * 3)) 40)) := by
  obtain ⟨i0, hi, hz0, hz1, hz2⟩ := info_parts Tryd.infoErr
  have h := run_make (P := Tryd.prog) W 25 40 i0 _ Tryd.underlying25 hi hz0 .i64 .i64 n n (by omega) (by omega) (by rw [hz2]; omega) (by omega)
  simpa [hz1, Value.cells] using h
theorem toErrs (v : Value) (xs : List Int) (w : World) (hl : xs.length ≤ 3145728) (hv : IsE w w.heap.size v xs) :
    Calls Tryd.prog 8 #[v] w fun e w' => ∃ v', e = .returned v' ∧ RwE w' w.heap.size w'.heap.size v' xs ∧ Below w.heap.size w w' := by
  obtain ⟨n, a, cap, rfl, HL, hm, hr, hc⟩ := hv
  have hn : n ≤ 1048576 := by have := HL.out; omega
  unfold maxLen at hm
  have HR := hid hr
  have hmk := mk_errs n (by omega)
  have HM := made3 (n * 3)
  generalize madeCells #[Value.int .i64 0, .int .i64 0, .int .i64 0] (n * 3) = mc at *
  have HM' := hid HM
  clear HM hr hl
  go_enter Tryd.func8, Tryd.ntmps8
  go_wp2
  go_loopw [4] (fun i wr => ∃ (j : Nat) (cur : Array Value), j ≤ n ∧ i = .int .i64 j ∧ Hid (wr.heap[w.heap.size]? = some (.cells cur 40 (0, 0))) ∧ Hid (cur.size = n * 3) ∧ Hid (∀ i, i < j * 3 → cur[i]? = some (.int .i64 (el xs i))) ∧ Below w.heap.size w wr) (fun i _ => n - (intOf i).toNat)
  case atStart => exact ⟨0, mc, Nat.zero_le _, rfl, heap_alloc_new w _, by show _ = _; rw [HM'.out]; simp, fun i hi => by omega, (Below.refl _ _).alloc (Nat.le_refl _) _⟩
  case round =>
    obtain ⟨j, cur, hj, rfl, HG, HS, HA, hbel⟩ := hrel
    clear hmk
    by_cases hlt : j < n
    · obtain ⟨b, off, rfl, hb, hcell⟩ := hc j hlt
      have g0 := (hbel.cell (p := ⟨b, off + j * 3, none⟩) hb).trans (hcell (j * 3) (by omega))
      have g1 := (hbel.cell (p := ⟨b, off + j * 3 + 1, none⟩) hb).trans (hcell (j * 3 + 1) (by omega))
      have g2 := (hbel.cell (p := ⟨b, off + j * 3 + 2, none⟩) hb).trans (hcell (j * 3 + 2) (by omega))
      have hgl := (Array.getElem?_eq_some_iff.1 HG.out).1
      have hs := hbel.size
      clear hc hcell
      go_wp2_with fail
      refine (c_toErratum _ _ _ _).mono ?_
      rintro e w9 ⟨rfl, b9⟩
      have HG9 := hid ((b9.block _ (by omega)).trans HG.out)
      have hs3 : j * 3 + 2 < cur.size := by rw [HS.out]; omega
      have c0 : w9.cell? ⟨w.heap.size, j * 3, none⟩ = some (cur[j * 3]'(by omega)) := by rw [row_cell HG9.out, Array.getElem?_eq_getElem (by omega)]
      have c1 : w9.cell? ⟨w.heap.size, j * 3 + 1, none⟩ = some (cur[j * 3 + 1]'(by omega)) := by rw [row_cell HG9.out, Array.getElem?_eq_getElem (by omega)]
      have c2 : w9.cell? ⟨w.heap.size, j * 3 + 2, none⟩ = some (cur[j * 3 + 2]'(by omega)) := by rw [row_cell HG9.out, Array.getElem?_eq_getElem (by omega)]
      have f0 := row_free HG9.out (j * 3)
      have f1 := row_free HG9.out (j * 3 + 1)
      have f2 := row_free HG9.out (j * 3 + 2)
      have b10 := hbel.trans (b9.mono hs)
      clear b9 hbel
      go_wp2
      go_roundw
      case rel => exact ⟨j + 1, _, by omega, by go_num, row_set (row_set (row_set HG9.out _ _) _ _) _ _, by show _ = _; simpa using HS.out, put3 (by have := HS.out; omega) HA.out, ((b10.setCell (p := ⟨w.heap.size, j * 3, none⟩) (Nat.le_refl _) _).setCell (p := ⟨w.heap.size, j * 3 + 1, none⟩) (Nat.le_refl _) _).setCell (p := ⟨w.heap.size, j * 3 + 2, none⟩) (Nat.le_refl _) _⟩
      case measure => simp [intOf]; omega
    · obtain rfl : j = n := by omega
      clear hc
      go_wp2
      go_ret
      refine ⟨_, rfl, OwnE.rw (n := j) ?_ HL.out HR.out (Nat.le_refl _), hbel⟩
      refine own_of_flat HG.out (Nat.le_refl _) (Nat.le_refl _) (by unfold maxLen; omega) HS.out (by simpa using HL.out) fun i hi => ?_
      rw [HA.out i hi, map_int_at _ _ (by rw [HL.out]; exact hi)]
theorem toErr (v : Value) (xs : List Int) (w : World) (hl : xs.length ≤ 3145728) (hv : IsE w w.heap.size v xs) :
    Calls Tryd.prog 8 #[v] w fun e w' => ∃ v', e = .returned v' ∧ RwE w' w.heap.size w'.heap.size v' xs ∧ Below w.heap.size w w' := toErrs v xs w hl hv
theorem szErr (v : Value) (xs : List Int) (w : World) (B : Nat) (m : Int) (h0 : 0 ≤ m) (h1 : m ≤ 1048576) (hv : IsE w B v xs) :
    Calls Tryd.prog 6 #[v, .int .i64 m] w fun e w' => e = .returned (.int .i64 (if m * 3 < xs.length then -1 else m - (xs.length / 3 : Nat))) ∧ w = w' := by
  obtain ⟨n, a, cap, rfl, HL, hm, hr, hc⟩ := hv
  unfold maxLen at hm
  have hl := HL.out
  have h3 : xs.length / 3 = n := by omega
  have h4 : m < n → (if m * 3 < (xs.length : Int) then (-1 : Int) else m - (xs.length / 3 : Nat)) = -1 := fun h => if_pos (by omega)
  have h5 : ¬ m < n → (if m * 3 < (xs.length : Int) then (-1 : Int) else m - (xs.length / 3 : Nat)) = m - n := fun h => by rw [if_neg (by omega), h3]
  clear hr hc hl
  by_cases hlt : m < n
  · rw [h4 hlt]
    clear h3 h4 h5
    go_enter Tryd.func6, Tryd.ntmps6
    go_wp2
    go_ret
    exact ⟨rfl, rfl⟩
  · rw [h5 hlt]
    clear h3 h4 h5
    go_enter Tryd.func6, Tryd.ntmps6
    go_wp2
    go_ret
    exact ⟨rfl, rfl⟩
theorem errG : Tryd.prog.eqGuardType Tryd.prog.depth 40 = false := by kernel_rfl
theorem errP : Tryd.prog.stoodInHeld 40 = false := by kernel_rfl
theorem errF : Tryd.prog.underlying 40 = some (.struct (Tryd.prog.fieldsOf 40)) := by kernel_rfl
theorem run_neq_err (a b c d e f : Int) (W : World) : (binOp .neq 40 (.agg #[.int .i64 a, .int .i64 b, .int .i64 c]) (.agg #[.int .i64 d, .int .i64 e, .int .i64 f])).run Tryd.prog W = .ok (.bool (!(decide (a = d ∧ b = e ∧ c = f)))) W := by
  have h3 : Tryd.prog.underlying 3 = some (.int .i64) := Tryd.underlying3
  rw [run_neq_struct, run_equalIn_agg _ 9999 _ _ _ errF errP]
  unfold Program.fieldsOf
  rw [Tryd.underlying40]
  simp [Op.eqFields]
  go_simp
  by_cases h1 : a = d <;> by_cases h2 : b = e <;> by_cases h3 : c = f <;> simp [*]
theorem deErrs (v u : Value) (xs ys : List Int) (B B' : Nat) (w : World) (hB : B ≤ w.heap.size) (hB' : B' ≤ w.heap.size) (hv : IsE w B v xs) (hu : IsE w B' u ys) :
    Calls Tryd.prog 16 #[v, u] w fun e w' => e = .returned (.bool (eqL xs ys)) ∧ ∃ n, w' = w.drewN n := by
  obtain ⟨n, a, cap, rfl, HX, hm, hr, hc⟩ := hv
  obtain ⟨n', a', cap', rfl, HY, hm', hr', hc'⟩ := hu
  unfold maxLen at hm hm'
  by_cases hl : n = n'
  · subst hl
    have hl1 : ((n : Int) != (n : Int)) = false := by simp
    clear hr hr'
    go_enter Tryd.func16, Tryd.ntmps16
    go_wp2
    go_loopw [5] (fun i wr => ∃ j : Nat, j ≤ n ∧ i = .int .i64 j ∧ Hid (xs.take (j * 3) = ys.take (j * 3)) ∧ ∃ m, wr = w.drewN m) (fun i wr => n - (intOf i).toNat)
    case atStart => exact ⟨0, Nat.zero_le _, rfl, by show _ = _; simp, 0, rfl⟩
    case round =>
      obtain ⟨j, hj, rfl, HT, m, rfl⟩ := hrel
      by_cases hlt : j < n
      · obtain ⟨b, off, rfl, hb, hcell⟩ := hc j hlt
        obtain ⟨b', off', rfl, hb', hcell'⟩ := hc' j hlt
        have g0 := hcell (j * 3) (by omega)
        have g1 : w.cell? ⟨b, off + j * 3 + 1, none⟩ = _ := hcell (j * 3 + 1) (by omega)
        have g2 : w.cell? ⟨b, off + j * 3 + 2, none⟩ = _ := hcell (j * 3 + 2) (by omega)
        have d0 := hcell' (j * 3) (by omega)
        have d1 : w.cell? ⟨b', off' + j * 3 + 1, none⟩ = _ := hcell' (j * 3 + 1) (by omega)
        have d2 : w.cell? ⟨b', off' + j * 3 + 2, none⟩ = _ := hcell' (j * 3 + 2) (by omega)
        have q0 : 0 ≤ (j : Int) := by omega
        have q1 : (j : Int) < n := by omega
        clear hc hc' hcell hcell'
        have hg := errG
        have hq := run_neq_err (el xs (j * 3)) (el xs (j * 3 + 1)) (el xs (j * 3 + 2)) (el ys (j * 3)) (el ys (j * 3 + 1)) (el ys (j * 3 + 2))
        by_cases he : el xs (j * 3) = el ys (j * 3) ∧ el xs (j * 3 + 1) = el ys (j * 3 + 1) ∧ el xs (j * 3 + 2) = el ys (j * 3 + 2)
        · have hd : decide (el xs (j * 3) = el ys (j * 3) ∧ el xs (j * 3 + 1) = el ys (j * 3 + 1) ∧ el xs (j * 3 + 2) = el ys (j * 3 + 2)) = true := by simpa using he
          have HTN := hid (take3 hlt HX.out HY.out HT.out he.1 he.2.1 he.2.2)
          rw [hd] at hq
          clear he hd
          go_wp2_with fail
          go_quiet (fail)
          go_wp2
          go_roundw
          case rel => exact ⟨j + 1, by omega, by go_num, HTN, m + nq, rfl⟩
          case measure => simp [intOf]; omega
        · have hd : decide (el xs (j * 3) = el ys (j * 3) ∧ el xs (j * 3 + 1) = el ys (j * 3 + 1) ∧ el xs (j * 3 + 2) = el ys (j * 3 + 2)) = false := by simpa using he
          have HNE := hid (show eqL xs ys = false by
            have h3 : el xs (j * 3) ≠ el ys (j * 3) ∨ el xs (j * 3 + 1) ≠ el ys (j * 3 + 1) ∨ el xs (j * 3 + 2) ≠ el ys (j * 3 + 2) := by omega
            rcases h3 with h3 | h3 | h3 <;> exact eqL_at h3)
          rw [hd] at hq
          clear he hd
          go_wp2_with fail
          go_quiet (fail)
          go_wp2
          go_ret
          exact ⟨retB HNE.out.symm, m + nq, by simp⟩
      · obtain rfl : j = n := by omega
        clear hc hc'
        go_wp2
        go_ret
        exact ⟨retB (eqL_all (by rw [HX.out, HY.out]) (Nat.le_of_eq HX.out) HT.out).symm, m, rfl⟩
  · have hl1 : ((n : Int) != (n' : Int)) = true := by simpa using (by omega : ¬ (n : Int) = n')
    have HNE := hid (eqL_len (xs := xs) (ys := ys) (by have := HX.out; have := HY.out; omega))
    clear hl hc hc' hr hr'
    go_enter Tryd.func16, Tryd.ntmps16
    go_wp2
    go_ret
    exact ⟨retB HNE.out.symm, 0, rfl⟩
end Go.Proofs.YtlinkeemccnfmaaDoor
