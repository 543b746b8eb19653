/- What is proved here: those statements of Slc that this claim needs. -/
import Derived.WalkSpells
import Derived.Laws.AppendOwnNone
import Derived.Deep.RegionHeld3
import Derived.Deep.AppendLies
import Derived.Test.YtlinkeemccnfmaaGreatDoorNum
set_option linter.unusedVariables false
set_option linter.unusedSimpArgs false
namespace Go.Proofs.YtlinkeemccnfmaaGreatDoor
open Go.RowKit
theorem Rw.split {w : World} {lo hi : Nat} {v : Value} {xs : List Int} (h : Rw w lo hi v xs) (hx : 0 < xs.length) :
    ∃ g cap, v = .slice (some ⟨g, 0, none⟩) xs.length cap ∧ lo ≤ g ∧ g < hi ∧ g < w.heap.size ∧ (∀ j, j < xs.length → w.cell? ⟨g, j, none⟩ = some (.int .i64 (el xs j))) ∧ (∀ j, w.frozen? ⟨g, j, none⟩ = false) := by
  obtain ⟨ho, hk, hr⟩ := h
  rcases ho.2 with ⟨rfl, hn⟩ | ⟨g, cap, cur, rfl, hbg, hgg, hnc, hcm, _, _⟩
  · omega
  · exact ⟨g, cap, rfl, hbg, hk g rfl, (Array.getElem?_eq_some_iff.1 hgg).1, fun j hj => by rw [own_cell ho j hj, map_int_at _ _ hj], row_free hgg⟩
theorem Rw.set {w : World} {lo hi g cap : Nat} {n : Nat} {xs : List Int} (h : Rw w lo hi (.slice (some ⟨g, 0, none⟩) n cap) xs) {j : Nat} (hj : j < xs.length) {x : Int} (hx : -9223372036854775808 ≤ x ∧ x ≤ 9223372036854775807) :
    Rw (w.setCell ⟨g, j, none⟩ (.int .i64 x)) lo hi (.slice (some ⟨g, 0, none⟩) n cap) (xs.set j x) := by
  obtain ⟨ho, hk, hr⟩ := h
  refine ⟨?_, hk, ?_⟩
  · rcases ho.2 with ⟨hv, hn⟩ | ⟨g', cap', cur, hv, hbg, hgg, hnc, hcm, hcs, hct⟩
    · cases hv
    · simp only [Value.slice.injEq, Option.some.injEq, Addr.mk.injEq] at hv
      obtain ⟨⟨rfl, -, -⟩, rfl, rfl⟩ := hv
      rw [List.length_set]
      refine own_of_cells (row_set hgg _ _) hbg hnc hcm (by simp; omega) (by simp) fun i hi => ?_
      rw [Array.getElem?_setIfInBounds]
      by_cases e : j = i
      · subst e
        rw [if_pos rfl, if_pos (by omega), map_int_at _ _ (by simpa using hj), el_set_same hj]
      · rw [if_neg e, map_int_at _ _ (by simpa using hi), el_set_other e, ← row_cell hgg, own_cell ho i hi, map_int_at _ _ hi]
  · refine R64.of_el fun k hk => ?_
    by_cases e : j = k
    · subst e; rw [el_set_same hj]; exact hx
    · rw [el_set_other e]; exact hr.at k
theorem Rw.own {w : World} {lo hi : Nat} {v : Value} {xs : List Int} (h : Rw w lo hi v xs) : OwnI w lo v xs := h.1

section
variable {P : Program} {ops : Array Oper} {rest : List Oper} {o : Oper} {a : Act} {K : Act → World → Prop} {Q : Exit → Act → World → Prop} {w : World}
theorem wpList_appSrc (hgd : o.guard = none) (s x : Operand) (T : TypeId)
    (ho : o.op = .call { callee := .builtin .append, args := #[s, x], argTypes := #[T, T] }) (hT : P.underlying T = some (.slice 3))
    (hinf : (P.info? 3).map (fun i => (i.zero, i.size, i.bytes)) = some (some (.int .i64 0), 1, 8))
    (B : Nat) (v : Value) (ys : List Int) (hs : a.eval s = v) (hown : OwnI w B v ys) (ad : Addr) (c : Nat) (xs : List Int) (hx : a.eval x = .slice (some ad) xs.length c)
    (hc : ∀ j, j < xs.length → w.cell? (ad.add j) = some (.int .i64 (el xs j))) (hn : ys.length + xs.length ≤ 1099511627776) (hbase : B ≤ w.heap.size)
    (h : ∀ v' w', OwnI w' B v' (ys ++ xs) → Below B w w' → wpList P ops Q rest (a.put o.dst v') w') : wpList P ops Q (o :: rest) a w := by
  obtain ⟨i0, hi, hz0, hz1, hz2⟩ := info_parts hinf
  refine wpList_append_own _ hgd s x T ho B 3 i0 _ 1 8 hT hi hz0 hz1 hz2 rfl (by omega) v _ _ hs hown ad xs.length c (xs.map (Value.int .i64)) hx (by simp) ?_ (ints_oneCell _ _) (by unfold maxLen; omega) (by omega) hbase ?_
  · intro j u hu
    have hj : j < xs.length := by
      rcases Nat.lt_or_ge j xs.length with h' | h'
      · exact h'
      · rw [List.getElem?_eq_none (by simpa using h')] at hu; cases hu
    rw [hc j hj, ← hu, map_int_at _ _ hj]
  · intro v' w' hown' hg _
    refine h v' w' (by unfold OwnI; simpa using hown') ⟨hg.os, hg.tape, hg.output, hg.size, fun k hk => hg.block k (by omega) (fun e => by have := (World.ownsRow.lt hown k e.symm).1; omega)⟩
theorem step_appI {E : Prop} {y : Int} {nd : Nat} (hgd : o.guard = none) (s x : Operand) (T : TypeId)
    (ho : o.op = .call { callee := .builtin .append, args := #[s, x], argTypes := #[T, T] }) (hT : P.underlying T = some (.slice 3))
    (hinf : (P.info? 3).map (fun i => (i.zero, i.size, i.bytes)) = some (some (.int .i64 0), 1, 8))
    (B : Nat) (v : Value) (xs : List Int) (hs : a.eval s = v) (hx : a.eval x = .slice (some ⟨w.heap.size, 0, none⟩) 1 1) (hown : OwnI w B v xs) (hn : xs.length ≤ 1099511627776) (hbase : B ≤ w.heap.size)
    (h : ∀ v' w', OwnI w' B v' (xs ++ [y]) → Below B w w' → K (a.put o.dst v') w') :
    if Region.wanted o (yielded ops a.tmps) = true then Oper.wp P o a ((w.alloc (.cells #[.int .i64 y] 3)).drewN nd) K Q else E := by
  obtain ⟨i0, hi, hz0, hz1, hz2⟩ := info_parts hinf
  have hw : Region.wanted o (yielded ops a.tmps) = true := by simp [Region.wanted, hgd]
  rw [if_pos hw]
  refine wp_append_own _ s x T ho B 3 i0 _ 1 8 hT hi hz0 hz1 hz2 rfl (by omega) v _ _ hs (hown.alloc _) ⟨w.heap.size, 0, none⟩ 1 1 [.int .i64 y] hx rfl ?_ (by simp [Value.oneCell']) ?_ ?_ ?_ ?_
  · intro j u hu
    have hadd : (⟨w.heap.size, 0, none⟩ : Addr).add j = ⟨w.heap.size, j, none⟩ := by unfold Addr.add; split <;> simp_all
    rw [hadd]
    show (w.alloc (.cells #[.int .i64 y] 3)).cell? ⟨w.heap.size, j, none⟩ = some u
    rw [World.cell?_alloc_at _ _ _ _ rfl]
    simpa using hu
  · unfold maxLen; omega
  · omega
  · simp; omega
  · intro v' w' hown' hg _
    refine h v' w' (by unfold OwnI; simpa using hown') ?_
    exact (((Below.refl _ _).alloc hbase _).trans ⟨hg.os, hg.tape, hg.output, hg.size, fun k hk => hg.block k (by simp; omega) (fun e => by have := (World.ownsRow.lt hown k e.symm).1; omega)⟩)
end
theorem c_CloneI (v : Value) (xs : List Int) (w : World) (hl : xs.length ≤ 1000000000) (hv : IsI w w.heap.size v xs) :
    Calls Tryz.prog 52 #[v] w (RetRow w xs) := by
  obtain ⟨a, cap, rfl, hm, hr, hc⟩ := hv
  unfold maxLen at hm
  have HC := hid hc
  have HR := hid hr
  clear hc hr
  cases a with
  | none =>
    have hx : xs = [] := by
      cases xs with
      | nil => rfl
      | cons x l => obtain ⟨b, off, hb, _⟩ := HC.out 0 (by simp); cases hb
    subst hx
    have hq := fun W => Lib.run_eql_slice_nil (P := Tryz.prog) W 23 3 none 0 cap 0 0 Tryz.underlying23
    go_enter Tryz.func52, Tryz.ntmps52
    go_wp2
    go_ret
    exact ⟨_, rfl, Rw.nil _ _ _, Below.refl _ _⟩
  | some ad =>
    have hq := fun W => Lib.run_eql_slice_nil (P := Tryz.prog) W 23 3 (some ad) xs.length cap 0 0 Tryz.underlying23
    have HC' : Hid (∀ j, j < xs.length → (w.alloc (.cells #[] 3)).cell? (ad.add j) = some (.int .i64 (el xs j))) := by
      intro j hj
      obtain ⟨b, off, hb, hbw, hcell⟩ := HC.out j hj
      simp only [Option.some.injEq] at hb
      subst hb
      have e : (⟨b, off, none⟩ : Addr).add j = ⟨b, off + j, none⟩ := by unfold Addr.add; split <;> simp_all
      rw [e, World.cell?_alloc_past _ _ _ hbw]
      exact hcell j hj
    go_enter Tryz.func52, Tryz.ntmps52
    go_wp2_with (at_builtin; refine wpList_appSrc rfl _ _ _ rfl Tryz.underlying23 Tryz.infoInt w.heap.size (.slice (some ⟨w.heap.size, 0, none⟩) 0 0) [] (by rfl) (OwnI.empty w (Nat.le_refl _) rfl) ad cap xs (by rfl) HC'.out (by simp; omega) (by simp) ?_; intro v1 w1 hown1 hb1)
    go_ret
    exact ⟨_, rfl, OwnI.rw hown1 HR.out (Nat.le_refl _), (RetRow.e1 _ _).trans hb1⟩
end Go.Proofs.YtlinkeemccnfmaaGreatDoor
