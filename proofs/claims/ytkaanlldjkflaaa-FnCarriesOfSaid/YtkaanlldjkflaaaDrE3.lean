/- What is proved here: the contract of the spoiling of a drawn engine. -/
import Derived.Test.YtkaanlldjkflaaaDrE2
import Derived.Test.YtkaanlldjkflaaaLtd
set_option linter.unusedVariables false
set_option linter.unusedSimpArgs false
set_option maxRecDepth 100000
namespace Go.Proofs.Ytkaanlldjkflaaa
open Go.RowKit

theorem RwT.neG' {w : World} {lo hi g gx n cap : Nat} {cs : List ByteArray} {cur : Array Value} {e : TypeId} (hr : RwT w lo hi (.slice (some ⟨g, 0, none⟩) n cap) cs) (hx : w.heap[gx]? = some (.cells cur e (0, 0))) (he : e ≠ 9) : g ≠ gx := by
  obtain ⟨g', cap', cur', hv, hg, hgg, _⟩ := hr
  simp only [Value.slice.injEq, Option.some.injEq, Addr.mk.injEq, and_true] at hv
  obtain ⟨rfl, rfl, rfl⟩ := hv
  rintro rfl
  rw [hgg] at hx
  simp only [Option.some.injEq, Obj.cells.injEq] at hx
  exact he hx.2.1.symm
/-- At most the blocks g and b have changed, and blocks are new. -/
structure C2 (g b : Nat) (w w' : World) : Prop where
  os : w'.os = w.os
  tape : w'.tape = w.tape
  output : w'.output = w.output
  size : w.heap.size ≤ w'.heap.size
  block : ∀ k, k < w.heap.size → k ≠ g → k ≠ b → w'.heap[k]? = w.heap[k]?
theorem C2.chg {g b lo hi : Nat} {w w1 w2 : World} (h : C2 g b w w1) (c : Chg lo hi w1 w2) (hh : ∀ k, lo ≤ k → k < hi → k = g ∨ k = b ∨ w.heap.size ≤ k) : C2 g b w w2 :=
  ⟨c.os.trans h.os, c.tape.trans h.tape, c.output.trans h.output, Nat.le_trans h.size c.size, fun k hk h1 h2 => (c.block k (Nat.lt_of_lt_of_le hk h.size) (fun ⟨h3, h4⟩ => by rcases hh k h3 h4 with h | h | h <;> omega)).trans (h.block k hk h1 h2)⟩
theorem C2.of {g b B : Nat} {w w1 : World} (c : Below B w w1) (hB : w.heap.size ≤ B) : C2 g b w w1 := ⟨c.os, c.tape, c.output, c.size, fun k hk _ _ => c.block k (by omega)⟩
theorem RwT.sub {w : World} {lo hi g n cap : Nat} {cs : List ByteArray} (h : RwT w lo hi (.slice (some ⟨g, 0, none⟩) n cap) cs) : RwT w lo hi (.slice (some ⟨g, 0, none⟩) 0 cap) [] := by
  obtain ⟨g', cap', cur, hv, hg, hgg, hm, hs, hc⟩ := h
  simp only [Value.slice.injEq, Option.some.injEq, Addr.mk.injEq, and_true] at hv
  obtain ⟨rfl, rfl, rfl⟩ := hv
  exact ⟨g, cap, cur, rfl, hg, hgg, ⟨Nat.zero_le _, hm.2⟩, hs, fun i hi => by simp at hi⟩
theorem step_appX {E : Prop} {K : Act → World → Prop} {Q : Exit → Act → World → Prop} {ops : Array Oper} {o : Oper} {a : Act} {w : World} {y : ByteArray} (hgd : o.guard = none) (s x : Operand)
    (ho : o.op = .call { callee := .builtin .append, args := #[s, x], argTypes := #[22, 22] }) (ga cap : Nat) (cs : List ByteArray) (hs : a.eval s = .slice (some ⟨ga, 0, none⟩) cs.length cap)
    (hr : RwT w ga (ga + 1) (.slice (some ⟨ga, 0, none⟩) cs.length cap) cs) (hx : a.eval x = .slice (some ⟨w.heap.size, 0, none⟩) 1 1) (hy : y.size ≤ maxLen) (hn : cs.length ≤ 1000000)
    (h : ∀ g' cap' w', RwT w' g' (g' + 1) (.slice (some ⟨g', 0, none⟩) (cs.length + 1) cap') (cs ++ [y]) → (g' = ga ∨ w.heap.size ≤ g') → Chg ga (ga + 1) w w' → (∀ i, i < cs.length → w'.cell? ⟨ga, i, none⟩ = some (.string (tC cs i))) → K (a.put o.dst (.slice (some ⟨g', 0, none⟩) (cs.length + 1) cap')) w') :
    if Region.wanted o (yielded ops a.tmps) = true then Oper.wp Try.prog o a (w.alloc (.cells #[.string y] 9)) K Q else E := by
  obtain ⟨i0, hi, hz0, hz1, hz2⟩ := info_parts Try.infoStr
  have hw : Region.wanted o (yielded ops a.tmps) = true := by simp [Region.wanted, hgd]
  rw [if_pos hw]
  have hlt := hr.lt
  have hr0 := hr
  obtain ⟨g', cap', cur, hv, hg, hgg, hm, hsz, hc⟩ := hr
  simp only [Value.slice.injEq, Option.some.injEq, Addr.mk.injEq, and_true, true_and] at hv
  obtain ⟨rfl, rfl⟩ := hv
  have hown : w.ownsRow ga 9 1 (.slice (some ⟨ga, 0, none⟩) cs.length cap) cs.length (cs.map Value.string) :=
    own_of_cells hgg (Nat.le_refl _) hm.1 hm.2 hsz (by simp) (fun i hi => by rw [(hc i hi).1, map_str_at _ _ hi])
  have hown1 := World.ownsRow.alloc hown (.cells #[.string y] 9)
  have hnews : ∀ j u, ([Value.string y] : List Value)[j]? = some u → (w.alloc (.cells #[.string y] 9)).cell? ((⟨w.heap.size, 0, none⟩ : Addr).add j) = some u := by
    intro j u hu
    have hadd : (⟨w.heap.size, 0, none⟩ : Addr).add j = ⟨w.heap.size, j, none⟩ := by unfold Addr.add; split <;> simp_all
    rw [hadd, World.cell?_alloc_at _ _ _ _ rfl]; simpa using hu
  have h63 : cs.length + 1 ≤ maxLen := by unfold maxLen; omega
  obtain ⟨v', w', hrun, hown', hgr, -⟩ := run_append_own (P := Try.prog) (w.alloc (.cells #[.string y] 9)) ga 22 o.type 9 i0 _ 1 16 Try.underlying22 hi hz0 hz1 hz2 rfl (by omega) _ cs.length _ hown1 ⟨w.heap.size, 0, none⟩ 1 1 [.string y] (by simp) hnews (by simp [Value.oneCell']) h63 (by omega) (by simp; omega)
  have hgg1 : (w.alloc (.cells #[.string y] 9)).heap[ga]? = some (.cells cur 9 (0, 0)) := (Below.heap_alloc _ _ _ hlt.2.2).trans hgg
  have hform : ∃ g2 cap2, v' = .slice (some ⟨g2, 0, none⟩) (cs.length + 1) cap2 ∧ (g2 = ga ∨ w.heap.size ≤ g2) ∧ (g2 = ga ∨ w'.heap[ga]? = w.heap[ga]?) := by
    by_cases hroom : cs.length + 1 ≤ cap
    · have h2 := run_append_room (P := Try.prog) (w.alloc (.cells #[.string y] 9)) 22 o.type 9 i0 Try.underlying22 hi ga cs.length cap cur hgg1 ⟨w.heap.size, 0, none⟩ 1 1 [.string y] (by rw [hz1]; rfl) hnews (by simp [Value.oneCell']) hroom (by rw [hz1]; simp; omega)
      rw [hrun] at h2
      simp only [Result.ok.injEq] at h2
      exact ⟨ga, cap, h2.1, .inl rfl, .inl rfl⟩
    · have h2 := run_append_grow (P := Try.prog) (w.alloc (.cells #[.string y] 9)) 22 o.type 9 i0 _ Try.underlying22 hi hz0 ⟨ga, 0, none⟩ cs.length cap (cs.map Value.string) (by rw [hz1]; simp) (hown1.cells (g := ga) rfl) ⟨w.heap.size, 0, none⟩ 1 1 [.string y] (by rw [hz1]; rfl) hnews (by omega) (by omega) (growslice_fits (by omega) (by rw [hz2]; omega))
      rw [hrun] at h2
      simp only [Result.ok.injEq] at h2
      exact ⟨_, _, h2.1, .inr (by simp), .inr (by rw [h2.2, Below.heap_alloc _ _ _ (show ga < (w.alloc (.cells #[.string y] 9)).drew.heap.size by show ga < (w.alloc (.cells #[.string y] 9)).heap.size; simp; omega)]; exact Below.heap_alloc _ _ _ hlt.2.2)⟩
  obtain ⟨g2, cap2, rfl, hg2, hgk⟩ := hform
  have hch : Chg ga (ga + 1) w w' := ⟨hgr.os, hgr.tape, hgr.output, by have := hgr.size; simp at this; omega, fun k hk hn => (hgr.block k (by simp; omega) (fun e => by simp only [Value.ownBlock, Option.some.injEq] at e; omega)).trans (Below.heap_alloc _ _ _ hk)⟩
  have hT : OwnT w' ga (.slice (some ⟨g2, 0, none⟩) (cs.length + 1) cap2) (cs ++ [y]) := ⟨by simpa using hown', fun i hi => by
    rw [List.length_append, List.length_singleton] at hi
    by_cases e : i < cs.length
    · rw [tC_app_left e]; exact (hc i e).2
    · obtain rfl : i = cs.length := by omega
      rw [tC_app_last]; exact hy⟩
  have hR := (hT.rwT (by simp) (Nat.le_refl _)).one
  unfold Oper.wp execOp
  simp only [ho, resolve, invoke, builtin, Sem.run_bind, Sem.run_pure, Result.andThen_ok, List.map_toArray, List.map_cons, List.map_nil, hs, hx, hrun]
  refine h g2 cap2 w' hR hg2 hch fun i hi => ?_
  rcases hgk with rfl | hgk
  · rw [(hR.at (show i < (cs ++ [y]).length by simp; omega)).1, tC_app_left hi]
  · exact (World.cell?_of_block (w := w) (a := ⟨ga, i, none⟩) hgk).trans (hr0.at hi).1
/-- What is left of a drawn engine that is spoilt sometimes. -/
def BadE (w : World) (B g L ga : Nat) (e : Ending) (w' : World) : Prop :=
  ∃ (gb cp : Nat) (ds : List ByteArray), e = .returned (.agg #[.slice (some ⟨gb, 0, none⟩) ds.length cp]) ∧ RwT w' gb (gb + 1) (.slice (some ⟨gb, 0, none⟩) ds.length cp) ds ∧ (gb = ga ∨ w.heap.size ≤ gb) ∧ ds.length ≤ 8 ∧ Rd w' B g L ∧ C2 g ga w w'
def lenAt (w : World) (g : Nat) : Nat := match w.cell? ⟨g, 0, none⟩ with
  | some (.slice _ n _) => n
  | _ => 0
set_option maxHeartbeats 3200000 in
theorem c_l3Bad (w : World) (B g L ga cap : Nat) (cs : List ByteArray) (hL : L ≤ 49000) (r : Rd w B g L) (hr : RwT w ga (ga + 1) (.slice (some ⟨ga, 0, none⟩) cs.length cap) cs) (hl1 : 1 ≤ cs.length) (hl8 : cs.length ≤ 8) (hsz : ∀ i, i < cs.length → (tC cs i).size ≤ 64) (hg : ga ≠ g) (hB : B ≤ ga) :
    Calls Try.prog 71 #[.pointer (some ⟨g, 0, none⟩), .agg #[.slice (some ⟨ga, 0, none⟩) cs.length cap]] w (BadE w B g (L + 4) ga) := by
  have hgl := r.lt
  have hge := r.ge
  have hal := hr.lt.2.2
  have HSZ := hid hsz
  have hs1 : (w.alloc (.cells #[.slice (some ⟨ga, 0, none⟩) cs.length cap] 27)).heap.size = w.heap.size + 1 := by simp
  have b1 := RetRow.e1 w (.cells #[.slice (some ⟨ga, 0, none⟩) cs.length cap] 27)
  have b2 := RetRow.e1 (w.alloc (.cells #[.slice (some ⟨ga, 0, none⟩) cs.length cap] 27)) (.cells #[.slice none 0 0] 27)
  have g0 := eng_alloc w (.slice (some ⟨ga, 0, none⟩) cs.length cap) 27
  have g1 := eng_alloc (w.alloc (.cells #[.slice (some ⟨ga, 0, none⟩) cs.length cap] 27)) (.slice none 0 0) 27
  rw [hs1] at g1 b2
  have b3 := b1.trans (b2.mono (by omega))
  replace g0 := (b2.block w.heap.size (by omega)).trans g0
  obtain ⟨wA, hwA⟩ : ∃ x, (w.alloc (.cells #[.slice (some ⟨ga, 0, none⟩) cs.length cap] 27)).alloc (.cells #[.slice none 0 0] 27) = x := ⟨_, rfl⟩
  rw [hwA] at b3 g0 g1
  have hsA : Hid (wA.heap.size = w.heap.size + 1 + 1) := by show _ = _; rw [← hwA]; simp
  have rA := r.below b3 hgl
  have hrA := hr.below b3 (by omega)
  have cA : C2 g ga w wA := C2.of b3 (Nat.le_refl _)
  obtain ⟨gE, hgE⟩ : ∃ x, w.heap.size = x := ⟨_, rfl⟩
  have hwE : w.heap.size ≤ gE := by omega
  have hEw : gE ≤ w.heap.size := by omega
  obtain ⟨gR, hgR⟩ : ∃ x, gE + 1 = x := ⟨_, rfl⟩
  have hR1 : gE < gR := by omega
  have hR2 : gR < wA.heap.size := by have := hsA.out; omega
  rw [hgE] at g0 g1
  rw [hgR] at g1
  have HG0 := hid g0
  have HG1 := hid g1
  have x0 := row_cell g0 0
  clear b1 b2 b3 r g0 g1 hs1 hr hsz
  go_enter Try.func71, Try.ntmps71
  go_wp2_with fail
  refine (c_pick _ B g L _ (by omega) (by omega) rA).mono ?_
  clear rA
  rintro e w1 ⟨kk, rfl, q, r, c⟩
  obtain ⟨k0, k1⟩ := q.1 (by omega)
  obtain ⟨k, rfl⟩ : ∃ k : Nat, kk = k := ⟨kk.toNat, by omega⟩
  have s1 := c.size
  have HA0 := hid ((c.block gE (by omega) (by omega)).trans HG0.out)
  have HA1 := hid ((c.block gR (by omega) (by omega)).trans HG1.out)
  replace hrA := hrA.keep c (by omega)
  replace cA := cA.chg c (fun k h1 h2 => by omega)
  clear c q HG0 HG1 x0
  go_wp2_with fail
  refine (c_pick _ B g _ _ (by omega) (by omega) r).mono ?_
  clear r
  rintro e w2 ⟨x, rfl, q, r, c⟩
  obtain ⟨x0, x1⟩ := q.1 (by omega)
  have s2 := c.size
  have HX := hid ((c.block gE (by omega) (by omega)).trans HA0.out)
  have HR := hid ((c.block gR (by omega) (by omega)).trans HA1.out)
  replace hrA := hrA.keep c (by omega)
  replace cA := cA.chg c (fun k h1 h2 => by omega)
  clear c q HA0 HA1
  (try clear hwA hgE)
  (try clear hgR)
  have xE := row_cell HX.out 0
  have hRl : gR < w2.heap.size := by omega
  by_cases h0 : x = 0
  · have t0 : (x == 0) = true := by simpa using h0
    have hk : k < cs.length := by omega
    have ck := (hrA.at hk).1
    have q0 : (0 : Int) ≤ (k : Int) := by omega
    have HSK := hid (HSZ.out k hk)
    have hsum : ¬ ((tC cs k).size + (⟨#[48]⟩ : ByteArray).size > 9223372036854775807) := by have := HSZ.out k hk; show ¬ ((tC cs k).size + 1 > 9223372036854775807); omega
    have hsum2 : ¬ 9223372036854775807 < (tC cs k).size + 1 := by have := HSZ.out k hk; omega
    have HSB := hid (show (tC cs k ++ ⟨#[48]⟩).size ≤ 1000000 by rw [ByteArray.size_append]; have := HSZ.out k hk; show (tC cs k).size + 1 ≤ 1000000; omega)
    have HSB2 := hid (show (tC cs k ++ ⟨#[48]⟩).size + 64 ≤ maxLen by unfold maxLen; have := HSB.out; omega)
    clear h0
    go_wp2_with fail
    refine regionL (m := 12) (S := fun w' => w'.cell? ⟨gE, 0, none⟩ = some (.slice (some ⟨ga, 0, none⟩) cs.length cap) ∧ w'.cell? ⟨ga, k, none⟩ = some (.string (tC cs k))) (by kernel_rfl) ?_ (fun hHeld => ?_)
    focus (exact ⟨xE, ck⟩)
    refine takeL (m := 12) (i := 0) (d := some 15) (v := ?_) rfl rfl rfl (by kernel_rfl) (by decide) (by kernel_rfl) ?_ _ _ _ _ (by kernel_rfl) (by kernel_rfl) (Or.inl ⟨by rfl, ?_⟩) (by assumption) ?_
    rotate_left
    exact fun _ _ _ h => h
    focus (intro w hSw; (try dsimp only at hSw); go_simp; (try with_reducible rfl); done)
    (try simp only [Act.put, List.setIfInBounds_toArray, List.set_cons_zero, List.set_cons_succ])
    refine takeL (m := 12) (i := 1) (d := some 16) (v := ?_) rfl rfl rfl (by kernel_rfl) (by decide) (by kernel_rfl) ?_ _ _ _ _ (by kernel_rfl) (by kernel_rfl) (Or.inl ⟨by rfl, ?_⟩) (by assumption) ?_
    rotate_left
    exact fun _ _ _ h => h
    focus (intro w hSw; (try dsimp only at hSw); go_simp; (try with_reducible rfl); done)
    (try simp only [Act.put, List.setIfInBounds_toArray, List.set_cons_zero, List.set_cons_succ])
    refine takeL (m := 12) (i := 2) (d := some 17) (v := ?_) rfl rfl rfl (by kernel_rfl) (by decide) (by kernel_rfl) ?_ _ _ _ _ (by kernel_rfl) (by kernel_rfl) (Or.inl ⟨by rfl, ?_⟩) (by assumption) ?_
    rotate_left
    exact fun _ _ _ h => h
    focus (intro w hSw; (try dsimp only at hSw); go_simp; (try with_reducible rfl); done)
    (try simp only [Act.put, List.setIfInBounds_toArray, List.set_cons_zero, List.set_cons_succ])
    refine takeL (m := 12) (i := 3) (d := some 18) (v := ?_) rfl rfl rfl (by kernel_rfl) (by decide) (by kernel_rfl) ?_ _ _ _ _ (by kernel_rfl) (by kernel_rfl) (Or.inl ⟨by rfl, ?_⟩) (by assumption) ?_
    rotate_left
    exact fun _ _ _ h => h
    focus (intro w hSw; (try dsimp only at hSw); go_simp; (try with_reducible rfl); done)
    (try simp only [Act.put, List.setIfInBounds_toArray, List.set_cons_zero, List.set_cons_succ])
    refine takeL (m := 12) (i := 4) (d := some 19) (v := ?_) rfl rfl rfl (by kernel_rfl) (by decide) (by kernel_rfl) ?_ _ _ _ _ (by kernel_rfl) (by kernel_rfl) (Or.inl ⟨by rfl, ?_⟩) (by assumption) ?_
    rotate_left
    exact fun _ _ _ h => h
    focus (intro w hSw; (try dsimp only at hSw); go_simp; (try with_reducible rfl); done)
    (try simp only [Act.put, List.setIfInBounds_toArray, List.set_cons_zero, List.set_cons_succ])
    refine takeL (m := 12) (i := 5) (d := some 20) (v := ?_) rfl rfl rfl (by kernel_rfl) (by decide) (by kernel_rfl) ?_ _ _ _ _ (by kernel_rfl) (by kernel_rfl) (Or.inl ⟨by rfl, ?_⟩) (by assumption) ?_
    rotate_left
    exact fun _ _ _ h => h
    focus (intro w hSw; (try dsimp only at hSw); go_simp; (try with_reducible rfl); done)
    (try simp only [Act.put, List.setIfInBounds_toArray, List.set_cons_zero, List.set_cons_succ])
    refine takeL (m := 12) (i := 6) (d := some 21) (v := ?_) rfl rfl rfl (by kernel_rfl) (by decide) (by kernel_rfl) ?_ _ _ _ _ (by kernel_rfl) (by kernel_rfl) (Or.inl ⟨by rfl, ?_⟩) (by assumption) ?_
    rotate_left
    exact fun _ _ _ h => h
    focus (intro w hSw; (try dsimp only at hSw); go_simp; (try with_reducible rfl); done)
    (try simp only [Act.put, List.setIfInBounds_toArray, List.set_cons_zero, List.set_cons_succ])
    refine takeL (m := 12) (i := 7) (d := some 22) (v := ?_) rfl rfl rfl (by kernel_rfl) (by decide) (by kernel_rfl) ?_ _ _ _ _ (by kernel_rfl) (by kernel_rfl) (Or.inl ⟨by rfl, ?_⟩) (by assumption) ?_
    rotate_left
    exact fun _ _ _ h => h
    focus (intro w hSw; (try dsimp only at hSw); go_simp; (try with_reducible rfl); done)
    (try simp only [Act.put, List.setIfInBounds_toArray, List.set_cons_zero, List.set_cons_succ])
    refine takeL (m := 12) (i := 8) (d := some 23) (v := ?_) rfl rfl rfl (by kernel_rfl) (by decide) (by kernel_rfl) ?_ _ _ _ _ (by kernel_rfl) (by kernel_rfl) (Or.inl ⟨by rfl, ?_⟩) (by assumption) ?_
    rotate_left
    exact fun _ _ _ h => h
    focus (intro w hSw; (try dsimp only at hSw); go_simp; (try with_reducible rfl); done)
    (try simp only [Act.put, List.setIfInBounds_toArray, List.set_cons_zero, List.set_cons_succ])
    refine takeL (m := 12) (i := 9) (d := some 24) (v := ?_) rfl rfl rfl (by kernel_rfl) (by decide) (by kernel_rfl) ?_ _ _ _ _ (by kernel_rfl) (by kernel_rfl) (Or.inl ⟨by rfl, ?_⟩) (by assumption) ?_
    rotate_left
    exact fun _ _ _ h => h
    focus (intro w hSw; (try dsimp only at hSw); go_simp; (try with_reducible rfl); done)
    (try simp only [Act.put, List.setIfInBounds_toArray, List.set_cons_zero, List.set_cons_succ])
    refine readyL (i := 10) (by kernel_rfl) rfl (fun K hK => ?_)
    go_simp
    have r' : Rd w2.drew B g (L + 1 + 1) := r
    with_reducible refine (c_l1Bad _ B g (L + 1 + 1) _ ?_ ?_ r').mono ?_
    focus omega
    focus exact HSB.out
    rintro e w3 ⟨s, rfl, hs, r3, c⟩
    have s3 : w2.heap.size ≤ w3.heap.size := c.size
    have HX3 := hid ((c.block gE (show gE < w2.heap.size by omega) (by omega)).trans (show w2.drew.heap[gE]? = _ from HX.out))
    have HR3 := hid ((c.block gR (show gR < w2.heap.size by omega) (by omega)).trans (show w2.drew.heap[gR]? = _ from HR.out))
    have hr3 := (show RwT w2.drew ga (ga + 1) _ cs from hrA).keep c (by omega)
    have c3 := cA.chg (show Chg g (g + 1) w2 w3 from ⟨c.os, c.tape, c.output, c.size, c.block⟩) (fun k h1 h2 => by omega)
    obtain ⟨ck3, fk3⟩ := hr3.at hk
    have xE3 := row_cell HX3.out 0
    refine hK.out _ _ ⟨xE3, ck3⟩ (fun hHeld => ?_)
    clear hK
    (try simp only [Act.put, List.setIfInBounds_toArray, List.set_cons_zero, List.set_cons_succ])
    refine takeL (m := 12) (i := 11) (d := some 26) (v := ?_) rfl rfl rfl (by kernel_rfl) (by decide) (by kernel_rfl) ?_ _ _ _ _ (by kernel_rfl) (by kernel_rfl) (Or.inl ⟨by rfl, ?_⟩) (by assumption) ?_
    rotate_left
    exact fun _ _ _ h => h
    focus (intro w hSw; (try dsimp only at hSw); go_simp; (try with_reducible rfl); done)
    (try simp only [Act.put, List.setIfInBounds_toArray, List.set_cons_zero, List.set_cons_succ])
    have hne : gE ≠ ga := Ne.symm (hr3.neG' HX3.out (by decide))
    have hnr : gR ≠ ga := Ne.symm (hr3.neG' HR3.out (by decide))
    have hr4 := hr3.set hk (s := s) (by have := HSB2.out; omega)
    have HX9 := hid ((Below.heap_setCell w3 ⟨ga, k, none⟩ (.string s) gE hne).trans HX3.out)
    have HR9 := hid ((Below.heap_setCell w3 ⟨ga, k, none⟩ (.string s) gR hnr).trans HR3.out)
    have r9 := r3.chg (set_chgE w3 ga k (.string s)) (by omega) (by omega)
    have c9 := c3.chg (set_chgE w3 ga k (.string s)) (fun k h1 h2 => by omega)
    obtain ⟨w4, hw4⟩ : ∃ x, w3.setCell ⟨ga, k, none⟩ (.string s) = x := ⟨_, rfl⟩
    rw [hw4] at hr4 HX9 HR9 r9 c9
    refine lastL (by kernel_rfl) rfl (fun K hK => ?_)
    go_simp
    refine hK.out _ _ ?_
    clear hK
    (try simp only [Act.put, List.setIfInBounds_toArray, List.set_cons_zero, List.set_cons_succ])
    clear hw4 xE3 ck3 fk3 hHeld r3 c3 hr3 HX3 HR3 c
    refine doneL (by kernel_rfl) ?_
    have x9 := row_cell HX9.out 0
    have z9 := row_cell HR9.out 0
    have f9 := row_free HR9.out 0
    have HF := hid (row_set HR9.out 0 (.slice (some ⟨ga, 0, none⟩) cs.length cap))
    have rf := r9.chg (set_chgE w4 gR 0 (.slice (some ⟨ga, 0, none⟩) cs.length cap)) (by omega) (by omega)
    have cf := c9.chg (set_chgE w4 gR 0 (.slice (some ⟨ga, 0, none⟩) cs.length cap)) (fun k h1 h2 => by omega)
    go_wp2
    (try simp only [Exit.inBlock, Exit.then])
    refine bodyPost_eng rfl rfl (by rfl) HF.out ?_
    refine ⟨ga, cap, cs.set k s, by rw [List.length_set], ?_, .inl rfl, by rw [List.length_set]; exact hl8, rf.up (by omega), cf⟩
    rw [List.length_set]
    exact hr4.cong (Below.heap_setCell w4 ⟨gR, 0, none⟩ _ ga (Ne.symm hnr)) (Nat.le_refl _)
  · have t0 : (x == 0) = false := by simpa using h0
    have hne : gE ≠ ga := Ne.symm (hrA.neG' HX.out (by decide))
    have hnr : gR ≠ ga := Ne.symm (hrA.neG' HR.out (by decide))
    have fE := row_free HX.out 0
    by_cases h1 : x = 1
    · have t1 : (x == 1) = true := by simpa using h1
      have HX9 := hid (row_set HX.out 0 (.slice (some ⟨ga, 0, none⟩) 0 cap))
      have HR9 := hid ((Below.heap_setCell w2 ⟨gE, 0, none⟩ (.slice (some ⟨ga, 0, none⟩) 0 cap) gR (show gR ≠ gE by omega)).trans HR.out)
      have r9 := r.chg (set_chgE w2 gE 0 (.slice (some ⟨ga, 0, none⟩) 0 cap)) (by omega) (by omega)
      have c9 := cA.chg (set_chgE w2 gE 0 (.slice (some ⟨ga, 0, none⟩) 0 cap)) (fun k h1 h2 => by omega)
      have hr4 := (hrA.cong (w' := w2.setCell ⟨gE, 0, none⟩ (.slice (some ⟨ga, 0, none⟩) 0 cap)) (hi' := ga + 1) (Below.heap_setCell w2 ⟨gE, 0, none⟩ _ ga (Ne.symm hne)) (Nat.le_refl _)).sub
      obtain ⟨w4, hw4⟩ : ∃ x, w2.setCell ⟨gE, 0, none⟩ (.slice (some ⟨ga, 0, none⟩) 0 cap) = x := ⟨_, rfl⟩
      rw [hw4] at hr4 HX9 HR9 r9 c9
      clear h0 h1
      have x9 := row_cell HX9.out 0
      have z9 := row_cell HR9.out 0
      have f9 := row_free HR9.out 0
      have HF := hid (row_set HR9.out 0 (.slice (some ⟨ga, 0, none⟩) 0 cap))
      have rf := r9.chg (set_chgE w4 gR 0 (.slice (some ⟨ga, 0, none⟩) 0 cap)) (by omega) (by omega)
      have cf := c9.chg (set_chgE w4 gR 0 (.slice (some ⟨ga, 0, none⟩) 0 cap)) (fun k h1 h2 => by omega)
      go_wp2
      (try simp only [Exit.inBlock, Exit.then])
      refine bodyPost_eng rfl rfl (by rfl) HF.out ?_
      exact ⟨ga, cap, [], rfl, hr4.cong (Below.heap_setCell w4 ⟨gR, 0, none⟩ _ ga (Ne.symm hnr)) (Nat.le_refl _), .inl rfl, by simp, rf.up (by omega), cf⟩
    · have t1 : (x == 1) = false := by simpa using h1
      by_cases h2 : x = 2
      · have t2 : (x == 2) = true := by simpa using h2
        clear h0 h1 h2
        have HX0 := hid HX.out
        have HR0 := hid HR.out
        go_wp2
        clear xE fE
        go_loopw [36] (fun _ wr => ∃ (gb cp : Nat) (ds : List ByteArray), Hid (wr.heap[gE]? = some (.cells #[.slice (some ⟨gb, 0, none⟩) ds.length cp] 27 (0, 0))) ∧ Hid (wr.heap[gR]? = some (.cells #[.slice none 0 0] 27 (0, 0))) ∧ RwT wr gb (gb + 1) (.slice (some ⟨gb, 0, none⟩) ds.length cp) ds ∧ (gb = ga ∨ w.heap.size ≤ gb) ∧ (1 ≤ ds.length ∧ ds.length ≤ 8) ∧ Rd wr B g (L + 4) ∧ C2 g ga w wr ∧ gR < wr.heap.size) (fun _ wr => 8 - lenAt wr gE)
        case atStart => exact ⟨ga, cap, cs, HX0.out, HR0.out, hrA, .inl rfl, ⟨hl1, hl8⟩, r.up (by omega), cA, hRl⟩
        case round =>
          obtain ⟨gb, cp, ds, HX, HR9, hrb, hgb, ⟨hd1, hd8⟩, rr, cr, hRw⟩ := hrel
          clear hrA r cA HX0 HR0
          have xE := row_cell HX.out 0
          have fE := row_free HX.out 0
          have hneb : gE ≠ gb := Ne.symm (hrb.neG' HX.out (by decide))
          have hnrb : gR ≠ gb := Ne.symm (hrb.neG' HR9.out (by decide))
          have hbl := hrb.lt.2.2
          by_cases hlt : ds.length < 8
          · have q0 : (ds.length : Int) < 8 := by omega
            have n3 : 0 < ds.length := by omega
            have n2 : (0 : Int) < ds.length := by omega
            have c0 := (hrb.at n3).1
            have HSM := hid (show (tC ds 0).size ≤ maxLen by obtain ⟨_, _, _, hv, _, _, _, _, hcc⟩ := hrb; exact (hcc 0 n3).2)
            go_wp2_with fail
            refine regionL (m := 9) (S := fun w' => w'.cell? ⟨gE, 0, none⟩ = some (.slice (some ⟨gb, 0, none⟩) ds.length cp) ∧ w'.cell? ⟨gb, 0, none⟩ = some (.string (tC ds 0))) (by kernel_rfl) ?_ (fun hHeld => ?_)
            focus (exact ⟨xE, c0⟩)
            refine takeL (m := 9) (i := 0) (d := some 39) (v := ?_) rfl rfl rfl (by kernel_rfl) (by decide) (by kernel_rfl) ?_ _ _ _ _ (by kernel_rfl) (by kernel_rfl) (Or.inl ⟨by rfl, ?_⟩) (by assumption) ?_
            rotate_left
            exact fun _ _ _ h => h
            focus (intro w hSw; (try dsimp only at hSw); go_simp; (try with_reducible rfl); done)
            (try simp only [Act.put, List.setIfInBounds_toArray, List.set_cons_zero, List.set_cons_succ])
            refine takeL (m := 9) (i := 1) (d := some 40) (v := ?_) rfl rfl rfl (by kernel_rfl) (by decide) (by kernel_rfl) ?_ _ _ _ _ (by kernel_rfl) (by kernel_rfl) (Or.inl ⟨by rfl, ?_⟩) (by assumption) ?_
            rotate_left
            exact fun _ _ _ h => h
            focus (intro w hSw; (try dsimp only at hSw); go_simp; (try with_reducible rfl); done)
            (try simp only [Act.put, List.setIfInBounds_toArray, List.set_cons_zero, List.set_cons_succ])
            refine takeL (m := 9) (i := 2) (d := some 41) (v := ?_) rfl rfl rfl (by kernel_rfl) (by decide) (by kernel_rfl) ?_ _ _ _ _ (by kernel_rfl) (by kernel_rfl) (Or.inl ⟨by rfl, ?_⟩) (by assumption) ?_
            rotate_left
            exact fun _ _ _ h => h
            focus (intro w hSw; (try dsimp only at hSw); go_simp; (try with_reducible rfl); done)
            (try simp only [Act.put, List.setIfInBounds_toArray, List.set_cons_zero, List.set_cons_succ])
            refine takeL (m := 9) (i := 3) (d := some 42) (v := ?_) rfl rfl rfl (by kernel_rfl) (by decide) (by kernel_rfl) ?_ _ _ _ _ (by kernel_rfl) (by kernel_rfl) (Or.inl ⟨by rfl, ?_⟩) (by assumption) ?_
            rotate_left
            exact fun _ _ _ h => h
            focus (intro w hSw; (try dsimp only at hSw); go_simp; (try with_reducible rfl); done)
            (try simp only [Act.put, List.setIfInBounds_toArray, List.set_cons_zero, List.set_cons_succ])
            refine takeL (m := 9) (i := 4) (d := some 43) (v := ?_) rfl rfl rfl (by kernel_rfl) (by decide) (by kernel_rfl) ?_ _ _ _ _ (by kernel_rfl) (by kernel_rfl) (Or.inl ⟨by rfl, ?_⟩) (by assumption) ?_
            rotate_left
            exact fun _ _ _ h => h
            focus (intro w hSw; (try dsimp only at hSw); go_simp; (try with_reducible rfl); done)
            (try simp only [Act.put, List.setIfInBounds_toArray, List.set_cons_zero, List.set_cons_succ])
            refine takeL (m := 9) (i := 5) (d := some 44) (v := ?_) rfl rfl rfl (by kernel_rfl) (by decide) (by kernel_rfl) ?_ _ _ _ _ (by kernel_rfl) (by kernel_rfl) (Or.inl ⟨by rfl, ?_⟩) (by assumption) ?_
            rotate_left
            exact fun _ _ _ h => h
            focus (intro w hSw; (try dsimp only at hSw); go_simp; (try with_reducible rfl); done)
            (try simp only [Act.put, List.setIfInBounds_toArray, List.set_cons_zero, List.set_cons_succ])
            refine readyL (i := 6) (by kernel_rfl) rfl (fun K hK => ?_)
            go_simp
            refine hK.out _ _ ⟨?_, ?_⟩ (fun hHeld => ?_)
            focus (exact (World.cell?_alloc_past _ _ _ (show gE < wr.drew.heap.size from by show gE < wr.heap.size; omega)).trans xE)
            focus (exact (World.cell?_alloc_past _ _ _ (show gb < wr.drew.heap.size from hbl)).trans c0)
            clear hK
            (try simp only [Act.put, List.setIfInBounds_toArray, List.set_cons_zero, List.set_cons_succ])
            refine readyL (i := 7) (by kernel_rfl) rfl (fun K hK => ?_)
            refine step_appX rfl _ _ rfl gb cp ds rfl (show RwT wr.drew gb (gb + 1) _ ds from hrb) rfl HSM.out (by omega) ?_
            intro g5 p5 w5 hr5 hg5 c5 hcl5
            have s5 : wr.heap.size ≤ w5.heap.size := c5.size
            have c5' : Chg gb (gb + 1) wr w5 := ⟨c5.os, c5.tape, c5.output, c5.size, c5.block⟩
            have HX5 := hid ((c5'.block gE (by omega) (by omega)).trans HX.out)
            have HR5 := hid ((c5'.block gR (by omega) (by omega)).trans HR9.out)
            have x5 := row_cell HX5.out 0
            have f5 := row_free HX5.out 0
            have hgb5 : w5.cell? ⟨gb, 0, none⟩ = some (.string (tC ds 0)) := hcl5 0 n3
            refine hK.out _ _ ⟨x5, hgb5⟩ (fun hHeld => ?_)
            clear hK
            (try simp only [Act.put, List.setIfInBounds_toArray, List.set_cons_zero, List.set_cons_succ])
            refine takeL (m := 9) (i := 8) (d := some 47) (v := ?_) rfl rfl rfl (by kernel_rfl) (by decide) (by kernel_rfl) ?_ _ _ _ _ (by kernel_rfl) (by kernel_rfl) (Or.inl ⟨by rfl, ?_⟩) (by assumption) ?_
            rotate_left
            exact fun _ _ _ h => h
            focus (intro w hSw; (try dsimp only at hSw); go_simp; (try with_reducible rfl); done)
            (try simp only [Act.put, List.setIfInBounds_toArray, List.set_cons_zero, List.set_cons_succ])
            have r5 := rr.chg c5' (by omega) (by omega)
            have cc5 := cr.chg c5' (fun k h1 h2 => by omega)
            have hne5 : gE ≠ g5 := Ne.symm (hr5.neG' HX5.out (by decide))
            have HX6 := hid (row_set HX5.out 0 (.slice (some ⟨g5, 0, none⟩) (ds.length + 1) p5))
            have HR6 := hid ((Below.heap_setCell w5 ⟨gE, 0, none⟩ (.slice (some ⟨g5, 0, none⟩) (ds.length + 1) p5) gR (show gR ≠ gE by omega)).trans HR5.out)
            have r6 := r5.chg (set_chgE w5 gE 0 (.slice (some ⟨g5, 0, none⟩) (ds.length + 1) p5)) (by omega) (by omega)
            have c6 := cc5.chg (set_chgE w5 gE 0 (.slice (some ⟨g5, 0, none⟩) (ds.length + 1) p5)) (fun k h1 h2 => by omega)
            have hr6 := hr5.cong (w' := w5.setCell ⟨gE, 0, none⟩ (.slice (some ⟨g5, 0, none⟩) (ds.length + 1) p5)) (hi' := g5 + 1) (Below.heap_setCell w5 ⟨gE, 0, none⟩ _ g5 (Ne.symm hne5)) (Nat.le_refl _)
            have hR6 : gR < (w5.setCell ⟨gE, 0, none⟩ (.slice (some ⟨g5, 0, none⟩) (ds.length + 1) p5)).heap.size := by simp; omega
            have hg6 : g5 = ga ∨ w.heap.size ≤ g5 := by have := cr.size; have : wr.drew.heap.size = wr.heap.size := rfl; omega
            have HLA := hid (show lenAt wr gE = ds.length by unfold lenAt; rw [xE]; rfl)
            have HLB := hid (show lenAt (w5.setCell ⟨gE, 0, none⟩ (.slice (some ⟨g5, 0, none⟩) (ds.length + 1) p5)) gE = ds.length + 1 by unfold lenAt; rw [row_cell HX6.out 0]; rfl)
            refine lastL (by kernel_rfl) rfl (fun K hK => ?_)
            go_simp
            refine hK.out _ _ ?_
            clear hK
            (try simp only [Act.put, List.setIfInBounds_toArray, List.set_cons_zero, List.set_cons_succ])
            clear hHeld x5 f5 hgb5
            refine doneL (by kernel_rfl) ?_
            go_wp2
            go_roundw
            case rel => exact ⟨g5, p5, ds ++ [tC ds 0], by show _ = _; rw [List.length_append, List.length_singleton]; exact HX6.out, HR6.out, by rw [List.length_append, List.length_singleton]; exact hr6, hg6, by rw [List.length_append, List.length_singleton]; omega, r6, c6, hR6⟩
            case measure => rw [HLA.out, HLB.out]; omega
          · have hng : ¬ (ds.length : Int) < 8 := by omega
            have r9 := rr
            have c9 := cr
            have x9 := row_cell HX.out 0
            have z9 := row_cell HR9.out 0
            have f9 := row_free HR9.out 0
            have HF := hid (row_set HR9.out 0 (.slice (some ⟨gb, 0, none⟩) ds.length cp))
            have rf := r9.chg (set_chgE wr gR 0 (.slice (some ⟨gb, 0, none⟩) ds.length cp)) (by omega) (by omega)
            have cf := c9.chg (set_chgE wr gR 0 (.slice (some ⟨gb, 0, none⟩) ds.length cp)) (fun k h1 h2 => by omega)
            go_wp2
            (try simp only [Exit.inBlock, Exit.then])
            refine bodyPost_eng rfl rfl (by rfl) HF.out ?_
            exact ⟨gb, cp, ds, rfl, hrb.cong (Below.heap_setCell wr ⟨gR, 0, none⟩ _ gb (Ne.symm hnrb)) (Nat.le_refl _), hgb, hd8, rf.up (by omega), cf⟩
      · have t2 : (x == 2) = false := by simpa using h2
        have HX9 := hid HX.out
        have HR9 := hid HR.out
        have r9 := r
        have c9 := cA
        clear h0 h1 h2
        have x9 := row_cell HX9.out 0
        have z9 := row_cell HR9.out 0
        have f9 := row_free HR9.out 0
        have HF := hid (row_set HR9.out 0 (.slice (some ⟨ga, 0, none⟩) cs.length cap))
        have rf := r9.chg (set_chgE w2 gR 0 (.slice (some ⟨ga, 0, none⟩) cs.length cap)) (by omega) (by omega)
        have cf := c9.chg (set_chgE w2 gR 0 (.slice (some ⟨ga, 0, none⟩) cs.length cap)) (fun k h1 h2 => by omega)
        go_wp2
        (try simp only [Exit.inBlock, Exit.then])
        refine bodyPost_eng rfl rfl (by rfl) HF.out ?_
        exact ⟨ga, cap, cs, rfl, hrA.cong (Below.heap_setCell w2 ⟨gR, 0, none⟩ _ ga (Ne.symm hnr)) (Nat.le_refl _), .inl rfl, hl8, rf.up (by omega), cf⟩
end Go.Proofs.Ytkaanlldjkflaaa
