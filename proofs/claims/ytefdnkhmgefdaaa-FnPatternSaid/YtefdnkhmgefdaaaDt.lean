/- What is proved here: slices of rows of ints, and the contract of impl's DiffTable. -/
import Derived.Test.YtefdnkhmgefdaaaDif
import Derived.Test.YtefdnkhmgefdaaaSlc
set_option linter.unusedVariables false
set_option linter.unusedSimpArgs false
namespace Go.Proofs.Ytefdnkhmgefdaaa
open Go.RowKit

/-- The value v reads in w as n rows of ints, the i-th F i. -/
def IsR (w : World) (B : Nat) (v : Value) (n : Nat) (F : Nat → List Int) : Prop :=
  ∃ a cap, v = .slice a n cap ∧ (n ≤ cap ∧ cap ≤ maxLen) ∧ ∀ i, i < n → ∃ b off u, a = some ⟨b, off, none⟩ ∧ b < B ∧ w.cell? ⟨b, off + i, none⟩ = some u ∧ IsI w B u (F i)
theorem IsR.below {w w' : World} {B B' n : Nat} {v : Value} {F : Nat → List Int} (h : IsR w B v n F) (hb : Below B' w w') (hB : B ≤ B') : IsR w' B v n F := by
  obtain ⟨a, cap, rfl, hm, hc⟩ := h
  refine ⟨a, cap, rfl, hm, fun i hi => ?_⟩
  obtain ⟨b, off, u, rfl, hbB, hcell, hu⟩ := hc i hi
  exact ⟨b, off, u, rfl, hbB, (hb.cell (p := ⟨b, off + i, none⟩) (show b < B' by omega)).trans hcell, hu.below hb hB⟩
theorem IsR.up {w : World} {B B' n : Nat} {v : Value} {F : Nat → List Int} (h : IsR w B v n F) (hB : B ≤ B') : IsR w B' v n F := by
  obtain ⟨a, cap, rfl, hm, hc⟩ := h
  refine ⟨a, cap, rfl, hm, fun i hi => ?_⟩
  obtain ⟨b, off, u, rfl, hbB, hcell, hu⟩ := hc i hi
  exact ⟨b, off, u, rfl, by omega, hcell, hu.up hB⟩
theorem IsR.chg {w w' : World} {B lo hi n : Nat} {v : Value} {F : Nat → List Int} (h : IsR w B v n F) (hb : Chg lo hi w w') (hB : B ≤ lo ∨ hi ≤ lo) (hs : B ≤ w.heap.size) : IsR w' B v n F :=
  h.below (hb.below hB hs) (Nat.le_refl _)
/-- A row of ints stays as it was where a row of another type grew. -/
theorem Rw.grown {w w' : World} {lo hi base size n : Nat} {e : TypeId} {u v : Value} {xs : List Int} {vs : List Value} (h : Rw w lo hi u xs) (hv : w.ownsRow base e size v n vs) (he : e ≠ 3) (hg : w.grownBy w' v.ownBlock) : Rw w' lo hi u xs := by
  refine ⟨ownsRow_of_block h.1 fun k hk => hg.block k (h.1.lt k hk).2 fun e2 => ?_, h.2⟩
  rcases h.1.2 with ⟨rfl, _⟩ | ⟨g, cap, cur, rfl, hbg, hgg, rest⟩
  · simp [Value.ownBlock] at hk
  · rcases hv.2 with ⟨rfl, _⟩ | ⟨g', cap', cur', rfl, hbg', hgg', rest'⟩
    · simp [Value.ownBlock] at e2
    · simp only [Value.ownBlock, Option.some.injEq] at hk e2
      have hkg : g = g' := by omega
      subst hkg
      rw [hgg] at hgg'
      simp only [Option.some.injEq, Obj.cells.injEq] at hgg'
      exact he hgg'.2.1.symm
theorem Rw.alloc {w : World} {lo hi : Nat} {v : Value} {xs : List Int} (h : Rw w lo hi v xs) (o : Obj) : Rw (w.alloc o) lo hi v xs :=
  ⟨ownsRow_of_block h.1 fun k hk => Below.heap_alloc _ _ _ (h.1.lt k hk).2, h.2⟩
section
variable {P : Program}
/-- The append of one element, told with what has grown. -/
theorem wpList_appG {ops : Array Oper} {rest : List Oper} {o : Oper} {a : Act} {Q : Exit → Act → World → Prop} {w : World} (hgd : o.guard = none) (s x : Operand) (t : TypeId)
    (ho : o.op = .call { callee := .builtin .append, args := #[s, x], argTypes := #[t, t] })
    (base : Nat) (e : TypeId) (i : TypeInfo) (z : Value) (size bytes : Nat) (ht : P.underlying t = some (.slice e)) (hi : P.info? e = some i) (hz : i.zero = some z)
    (hsize : i.size = size) (hby : i.bytes = bytes) (hzs : z.cells.size = size) (hsz : 0 < size)
    (v : Value) (n : Nat) (xs : List Value) (hs : a.eval s = v) (hown : w.ownsRow base e size v n xs)
    (news : List Value) (hx : a.eval x = .slice (some ⟨w.heap.size, 0, none⟩) 1 1) (hl : news.length = size) (h1 : ∀ u ∈ news, u.oneCell' = true)
    (hn : n ≤ 1099511627776) (hb : bytes ≤ 64) (hbase : base ≤ w.heap.size)
    (h : ∀ v' w', w'.ownsRow base e size v' (n + 1) (xs ++ news) → (w.alloc (.cells news.toArray e)).grownBy w' v.ownBlock → Below base w w' → wpList P ops Q rest (a.put o.dst v') w') :
    wpList P ops Q (o :: rest) a (w.alloc (.cells news.toArray e)) := by
  refine wpList_append_own _ hgd s x t ho base e i z size bytes ht hi hz hsize hby hzs hsz v n xs hs (hown.alloc _) ⟨w.heap.size, 0, none⟩ 1 1 news hx (by omega) ?_ h1 ?_ ?_ ?_ ?_
  · intro j u hu
    have hadd : (⟨w.heap.size, 0, none⟩ : Addr).add j = ⟨w.heap.size, j, none⟩ := by unfold Addr.add; split <;> simp_all
    rw [hadd, World.cell?_alloc_at _ _ _ _ rfl, List.getElem?_toArray]; exact hu
  · unfold maxLen; omega
  · exact Nat.le_trans (Nat.mul_le_mul (show n + 1 ≤ 1099511627776 + 1 by omega) hb) (by omega)
  · simp; omega
  · intro v' w' hown' hg _
    refine h v' w' hown' hg ?_
    exact ((Below.refl _ _).alloc hbase _).grown hg (by simp; omega) (fun k hk => (hown.lt k hk).1)
end
/-- Differences of a short table stay small enough, however often they are taken. -/
theorem dN_bdn {xs : List Int} (h : TB xs = true) {n : Nat} (hn : n ≤ 30) : Bd 1100000000000000000 (dN xs n) := by
  refine (dN_bd (TB_Bd h) n).mono ?_
  have : (2 : Int) ^ n ≤ 2 ^ 30 := by
    have h1 : (2 : Nat) ^ n ≤ 2 ^ 30 := Nat.pow_le_pow_right (by omega) hn
    exact_mod_cast h1
  omega
/-- How many rows DiffTable has. -/
def dtN (xs : List Int) : Nat := if TB xs && decide (xs.length ≤ 30) then xs.length else 0
/-- What is left by a call that hands back rows of ints. -/
def RetR (w : World) (n : Nat) (F : Nat → List Int) (e : Ending) (w' : World) : Prop := ∃ v, e = .returned v ∧ IsR w' w'.heap.size v n F ∧ Below w.heap.size w w'
theorem isR_nil (w : World) (B : Nat) (F : Nat → List Int) : IsR w B (.slice none 0 0) 0 F := ⟨none, 0, rfl, ⟨Nat.zero_le _, Nat.zero_le _⟩, fun i hi => by omega⟩

theorem Try.infoRow : (Try.prog.info? 22).map (fun i => (i.zero, i.size, i.bytes)) = some (some (.slice none 0 0), 1, 24) := by kernel_rfl
theorem mk_rows (n : Nat) (hn : n ≤ 1099511627776) (W : World) :
    (Instr.makeSlice 58 (.int .i64 0) (.int .i64 n)).run Try.prog W = .ok (.slice (some ⟨W.heap.size, 0, none⟩) 0 n) (W.alloc (.cells (madeCells #[.slice none 0 0] n) 22)) := by
  obtain ⟨i0, hi, hz0, hz1, hz2⟩ := info_parts Try.infoRow
  have h := run_make (P := Try.prog) W 58 22 i0 _ Try.underlying58 hi hz0 .i64 .i64 0 n (by omega) (by omega) (by rw [hz2]; omega) (by omega)
  simpa [hz1, Value.cells] using h
set_option maxHeartbeats 800000 in
theorem c_iDiffTable (w : World) (v : Value) (xs : List Int) (hv : IsI w w.heap.size v xs) :
    Calls Try.prog 49 #[v] w (RetR w (dtN xs) (dN xs)) := by
  obtain ⟨av, capv, hva⟩ : ∃ a cap, v = .slice a xs.length cap := ⟨_, _, hv.choose_spec.choose_spec.1⟩
  subst hva
  by_cases hT : TB xs = true
  · by_cases h30 : xs.length ≤ 30
    · have HN : Hid (dtN xs = xs.length) := by show dtN xs = _; unfold dtN; rw [hT]; simp [h30]
      have HT := hid hT
      rw [HN.out]
      have hmk := mk_rows xs.length (by omega)
      have hms : (madeCells #[Value.slice none 0 0] xs.length).size = xs.length := size_madeCells _ _
      generalize madeCells #[Value.slice none 0 0] xs.length = mc at *
      have HMS := hid hms
      have hown0 : (w.alloc (.cells mc 22)).ownsRow w.heap.size 22 1 (.slice (some ⟨w.heap.size, 0, none⟩) 0 xs.length) 0 [] := World.ownsRow_made w mc xs.length (Nat.le_refl _) (by unfold maxLen; omega) (by rw [hms]; omega)
      have b0 : Below w.heap.size w (w.alloc (.cells mc 22)) := RetRow.e1 _ _
      have hv1 := hv.below b0 (Nat.le_refl _)
      have hv2 := hv
      have HOW := hid hown0
      clear hown0
      clear hT hms hv
      go_enter Try.func49, Try.ntmps49
      go_wp2_with fail
      refine (c_iTableValid _ xs _ _ hv2).mono ?_
      rw [HT.out]
      rintro e wx ⟨rfl, rfl⟩
      go_wp2_with fail
      refine (c_CloneI _ xs _ (by omega) (hv1.up (by simp))).mono ?_
      rintro e w1 ⟨v1, rfl, r1, b1⟩
      have s1 := b1.size
      have hown1 : w1.ownsRow w.heap.size 22 1 (.slice (some ⟨w.heap.size, 0, none⟩) 0 xs.length) 0 [] := ownsRow_of_block HOW.out fun k hk => b1.block k (HOW.out.lt k hk).2
      have b2 := b0.trans (b1.mono (by simp))
      have hw1 : w.heap.size ≤ w1.heap.size := b2.size
      obtain ⟨a1, cap1, hv1e⟩ : ∃ a cap, v1 = .slice a xs.length cap := ⟨_, _, r1.isI.choose_spec.choose_spec.1⟩
      subst hv1e
      clear b0 b1 hv1 hv2 hmk
      go_wp2
      go_loopw [3, 4] (fun rv u wr => ∃ (j : Nat) (vals : List Value) (vr : Value) (au : Option Addr) (capu : Nat), rv = vr ∧ u = .slice au (xs.length - j) capu ∧ j ≤ xs.length ∧ Hid (vals.length = j) ∧ Hid (wr.ownsRow w.heap.size 22 1 vr j vals) ∧ Rw wr w.heap.size wr.heap.size (.slice au (xs.length - j) capu) (dN xs j) ∧ Hid (∀ i, i < j → ∃ y, vals[i]? = some y ∧ Rw wr w.heap.size wr.heap.size y (dN xs i)) ∧ Below w.heap.size w wr) (fun _ u _ => match u with | .slice _ n _ => n | _ => 0)
      case atStart => exact ⟨0, [], _, a1, cap1, rfl, by simp, Nat.zero_le _, rfl, hown1, r1.down (by simp), fun i hi => by omega, b2⟩
      case round =>
        clear hown1 r1 b2
        obtain ⟨j, vals, vr, au, capu, rfl, rfl, hj, HVL, HOV, hr, HV, hbel⟩ := hrel
        have hbs := hbel.size
        have HLEN := hid (dN_len xs j)
        by_cases hlt : j < xs.length
        · have k1 : 0 < xs.length - j := by omega
          have HI0 := hid (info_parts Try.infoRow)
          have HDB := hid (dN_bdn HT.out (show j ≤ 30 by omega))
          go_wp2_with (at_builtin; obtain ⟨i0, hi, hz0, hz1, hz2⟩ := HI0.out; refine wpList_appG (news := [.slice au (xs.length - j) capu]) rfl _ _ _ rfl w.heap.size 22 i0 _ 1 24 Try.underlying58 hi hz0 hz1 hz2 rfl (by omega) _ j vals (by rfl) HOV.out (by rfl) rfl (by simp [Value.oneCell']) (by omega) (by omega) hbs ?_; clear hi hz0 hz1 hz2; intro v2 w2 hown2 hg2 hb2; have HOV2 := hid hown2; have HG2 := hid hg2; clear hown2 hg2)
          have hra := hr.alloc (.cells #[.slice au (xs.length - j) capu] 22)
          have hr2 := hra.grown (HOV.out.alloc _) (by decide) HG2.out
          have s2 : wr.heap.size + 1 ≤ w2.heap.size := by have := HG2.out.size; simpa using this
          have hb3 := hbel.trans hb2
          refine (c_neighbors _ (dN xs j) 1100000000000000000 _ (hr2.isI.up (by omega)) (by omega) HDB.out (by rw [HLEN.out]; omega)).mono ?_
          rintro e w3 ⟨v3, rfl, r3, b3⟩
          have s3 := b3.size
          obtain ⟨a3, cap3, hv3⟩ : ∃ a cap, v3 = .slice a (dF (dN xs j)).length cap := ⟨_, _, r3.isI.choose_spec.choose_spec.1⟩
          have hl3 : (dF (dN xs j)).length = xs.length - (j + 1) := by rw [dF_len, HLEN.out]; omega
          rw [hl3] at hv3
          subst hv3
          have HOV3 := hid (show w3.ownsRow w.heap.size 22 1 v2 (j + 1) (vals ++ [.slice au (xs.length - j) capu]) from ownsRow_of_block HOV2.out fun k hk => b3.block k (HOV2.out.lt k hk).2)
          have HV3 := hid (show ∀ i, i < j + 1 → ∃ y, (vals ++ [.slice au (xs.length - j) capu])[i]? = some y ∧ Rw w3 w.heap.size w3.heap.size y (dN xs i) from fun i hi => by
            by_cases e : i < j
            · obtain ⟨y, hy, hry⟩ := HV.out i e
              refine ⟨y, by rw [List.getElem?_append_left (by rw [HVL.out]; exact e)]; exact hy, ?_⟩
              exact ((((hry.alloc _).grown (HOV.out.alloc _) (by decide) HG2.out).below b3 (by omega)).up (by omega))
            · obtain rfl : i = j := by omega
              refine ⟨_, by rw [List.getElem?_append_right (by rw [HVL.out]; omega), HVL.out, Nat.sub_self]; rfl, ?_⟩
              exact (hr2.below b3 (by omega)).up (by omega))
          have r4 := r3.down (show w.heap.size ≤ w2.heap.size by omega)
          have b4 := hb3.trans (b3.mono (by omega))
          clear hra hr2 r3 b3 hb3 hb2 hr hl3
          go_wp2
          go_roundw
          case rel => exact ⟨j + 1, _, _, a3, cap3, rfl, rfl, by omega, by show _ = _; simp [HVL.out], HOV3, r4, HV3, b4⟩
          case measure => simp; omega
        · obtain rfl : j = xs.length := by omega
          go_wp2
          go_ret
          refine ⟨_, rfl, ?_, hbel⟩
          have ho := HOV.out
          rcases ho.2 with ⟨rfl, hn⟩ | ⟨g, cap, cur, rfl, hbg, hgg, hnc, hcm, hcs, hct⟩
          · rw [hn]; exact isR_nil _ _ _
          · refine ⟨_, cap, rfl, ⟨hnc, hcm⟩, fun i hi => ?_⟩
            obtain ⟨y, hy, hry⟩ := HV.out i hi
            refine ⟨g, 0, y, rfl, (Array.getElem?_eq_some_iff.1 hgg).1, ?_, hry.isI⟩
            rw [Nat.zero_add, own_cell ho i hi]; exact hy
    · have HN : Hid (dtN xs = 0) := by show dtN xs = _; unfold dtN; rw [hT]; simp [h30]
      rw [HN.out]
      have hl2 : (30 : Int) < xs.length := by omega
      clear h30
      go_enter Try.func49, Try.ntmps49
      go_wp2_with fail
      refine (c_iTableValid _ xs _ _ hv).mono ?_
      rw [hT]
      rintro e wx ⟨rfl, rfl⟩
      go_wp2
      go_ret
      exact ⟨_, rfl, isR_nil _ _ _, Below.refl _ _⟩
  · have hT' : TB xs = false := by simpa using hT
    have HN : Hid (dtN xs = 0) := by show dtN xs = _; unfold dtN; rw [hT']; rfl
    rw [HN.out]
    clear hT
    go_enter Try.func49, Try.ntmps49
    go_wp2_with fail
    refine (c_iTableValid _ xs _ _ hv).mono ?_
    rw [hT']
    rintro e wx ⟨rfl, rfl⟩
    go_wp2
    go_ret
    exact ⟨_, rfl, isR_nil _ _ _, Below.refl _ _⟩
end Go.Proofs.Ytefdnkhmgefdaaa
