/- What is proved here: those statements of Draw2 that this claim needs. -/
import Derived.Test.YtlinkeemccnfmaaGreatDoorDraw0
import Derived.Test.YtlinkeemccnfmaaGreatDoorPol2
set_option linter.unusedVariables false
set_option linter.unusedSimpArgs false
namespace Go.Proofs.YtlinkeemccnfmaaGreatDoor
open Go.RowKit
theorem OwnI.chg {w w' : World} {B lo hi : Nat} {v : Value} {xs : List Int} (h : OwnI w B v xs) (c : Chg lo hi w w') (hb : hi ≤ B) : OwnI w' B v xs :=
  ownsRow_of_block h fun k hk => c.block k (h.lt k hk).2 (by have := (h.lt k hk).1; omega)
def Wc (w : World) (g off cap : Nat) (xs : List Int) : Prop :=
  ∃ cur, w.heap[g]? = some (.cells cur 3 (0, 0)) ∧ (xs.length ≤ cap ∧ cap ≤ maxLen) ∧ R64 xs ∧ ∀ i, i < xs.length → cur[off + i]? = some (.int .i64 (el xs i))
theorem Wc.lt {w : World} {g off cap : Nat} {xs : List Int} (h : Wc w g off cap xs) : g < w.heap.size := by
  obtain ⟨cur, h1, _⟩ := h; exact (Array.getElem?_eq_some_iff.1 h1).1
theorem Wc.len {w : World} {g off cap : Nat} {xs : List Int} (h : Wc w g off cap xs) : xs.length ≤ cap ∧ cap ≤ maxLen := by
  obtain ⟨cur, _, h2, _⟩ := h; exact h2
theorem Wc.range {w : World} {g off cap : Nat} {xs : List Int} (h : Wc w g off cap xs) : R64 xs := by
  obtain ⟨cur, _, _, h3, _⟩ := h; exact h3
theorem Wc.cell {w : World} {g off cap : Nat} {xs : List Int} (h : Wc w g off cap xs) (j : Nat) (hj : j < xs.length) : w.cell? ⟨g, off + j, none⟩ = some (.int .i64 (el xs j)) := by
  obtain ⟨cur, h1, _, _, h4⟩ := h
  rw [row_cell h1]; exact h4 j hj
theorem Wc.cell0 {w : World} {g cap : Nat} {xs : List Int} (h : Wc w g 0 cap xs) (j : Nat) (hj : j < xs.length) : w.cell? ⟨g, j, none⟩ = some (.int .i64 (el xs j)) := by
  have := h.cell j hj; rwa [Nat.zero_add] at this
theorem Wc.free {w : World} {g off cap : Nat} {xs : List Int} (h : Wc w g off cap xs) (j : Nat) : w.frozen? ⟨g, j, none⟩ = false := by
  obtain ⟨cur, h1, _⟩ := h; exact row_free h1 j
theorem Wc.set {w : World} {g off cap : Nat} {xs : List Int} (h : Wc w g off cap xs) {j : Nat} (hj : j < xs.length) {x : Int} (hx : -9223372036854775808 ≤ x ∧ x ≤ 9223372036854775807) :
    Wc (w.setCell ⟨g, off + j, none⟩ (.int .i64 x)) g off cap (xs.set j x) := by
  obtain ⟨cur, h1, h2, h3, h4⟩ := h
  refine ⟨_, row_set h1 _ _, by simpa using h2, ?_, ?_⟩
  · refine R64.of_el fun k hk => ?_
    by_cases e : j = k
    · subst e; rw [el_set_same hj]; exact hx
    · rw [el_set_other e]; exact h3.at k
  · intro i hi
    rw [List.length_set] at hi
    rw [Array.getElem?_setIfInBounds]
    by_cases e : j = i
    · subst e
      rw [if_pos rfl, el_set_same hj]
      have := h4 j hj
      rw [if_pos ((Array.getElem?_eq_some_iff.1 this).1)]
    · rw [if_neg (by omega), el_set_other e]; exact h4 i hi
theorem Wc.set0 {w : World} {g cap : Nat} {xs : List Int} (h : Wc w g 0 cap xs) {j : Nat} (hj : j < xs.length) {x : Int} (hx : -9223372036854775808 ≤ x ∧ x ≤ 9223372036854775807) :
    Wc (w.setCell ⟨g, j, none⟩ (.int .i64 x)) g 0 cap (xs.set j x) := by
  have := h.set hj hx; rwa [Nat.zero_add] at this
theorem Wc.chg {w w' : World} {g off cap lo hi : Nat} {xs : List Int} (h : Wc w g off cap xs) (c : Chg lo hi w w') (hg : g < lo ∨ hi ≤ g) : Wc w' g off cap xs := by
  have hl := h.lt
  obtain ⟨cur, h1, h2⟩ := h
  exact ⟨cur, (c.block g hl (by omega)).trans h1, h2⟩
theorem Wc.below {w w' : World} {g off cap B : Nat} {xs : List Int} (h : Wc w g off cap xs) (c : Below B w w') (hg : g < B) : Wc w' g off cap xs := by
  obtain ⟨cur, h1, h2⟩ := h
  exact ⟨cur, (c.block g hg).trans h1, h2⟩
theorem Wc.drewN {w : World} {g off cap : Nat} {xs : List Int} (h : Wc w g off cap xs) (n : Nat) : Wc (w.drewN n) g off cap xs := h
theorem Wc.take {w : World} {g off cap : Nat} {xs : List Int} (h : Wc w g off cap xs) (n : Nat) : Wc w g off cap (xs.take n) := by
  obtain ⟨cur, h1, h2, h3, h4⟩ := h
  refine ⟨cur, h1, by have := List.length_take_le n xs; have := List.length_take_le' n xs; omega, h3.take n, fun i hi => ?_⟩
  rw [List.length_take] at hi
  rw [el_take (by omega)]; exact h4 i (by omega)
theorem Wc.drop {w : World} {g off cap : Nat} {xs : List Int} (h : Wc w g off cap xs) {n : Nat} (hn : n ≤ xs.length) : Wc w g (off + n) (cap - n) (xs.drop n) := by
  obtain ⟨cur, h1, h2, h3, h4⟩ := h
  refine ⟨cur, h1, by simp; omega, h3.drop n, fun i hi => ?_⟩
  rw [List.length_drop] at hi
  rw [el_drop, Nat.add_assoc]; exact h4 (n + i) (by omega)
theorem Wc.isI {w : World} {g off cap hi : Nat} {xs : List Int} (h : Wc w g off cap xs) (hh : g < hi) : IsI w hi (.slice (some ⟨g, off, none⟩) xs.length cap) xs :=
  ⟨_, cap, rfl, ⟨h.len.1, h.len.2, fun h => by cases h⟩, h.range, fun i hi => ⟨g, off, rfl, hh, fun j hj => h.cell j hj⟩⟩
theorem OwnI.wc {w : World} {B : Nat} {v : Value} {xs : List Int} (h : OwnI w B v xs) (hx : 0 < xs.length) (hr : R64 xs) :
    ∃ g cap, v = .slice (some ⟨g, 0, none⟩) xs.length cap ∧ B ≤ g ∧ g < w.heap.size ∧ Wc w g 0 cap xs := by
  have ho := h
  rcases h.2 with ⟨rfl, hn⟩ | ⟨g, cap, cur, rfl, hbg, hgg, hnc, hcm, _, _⟩
  · omega
  · exact ⟨g, cap, rfl, hbg, (Array.getElem?_eq_some_iff.1 hgg).1, cur, hgg, ⟨hnc, hcm⟩, hr, fun i hi => by rw [Nat.zero_add, ← row_cell hgg, own_cell ho i hi, map_int_at _ _ hi]⟩
theorem Blk.wc {w : World} {g : Nat} {xs : List Int} (h : Blk w g xs) (hm : xs.length ≤ maxLen) (hr : R64 xs) : Wc w g 0 xs.length xs :=
  ⟨_, h, ⟨Nat.le_refl _, hm⟩, hr, fun i hi => by rw [Nat.zero_add, List.getElem?_toArray, map_int_at _ _ hi]⟩
structure Ch2 (g b : Nat) (w w' : World) : Prop where
  os : w'.os = w.os
  tape : w'.tape = w.tape
  output : w'.output = w.output
  size : w.heap.size ≤ w'.heap.size
  block : ∀ k, k < w.heap.size → k ≠ g → k ≠ b → w'.heap[k]? = w.heap[k]?
theorem Ch2.of {g b : Nat} {w w' : World} (c : Chg g (g + 1) w w') : Ch2 g b w w' := ⟨c.os, c.tape, c.output, c.size, fun k hk h1 h2 => c.block k hk (by omega)⟩
theorem Ch2.set {g b : Nat} {w w' : World} (c : Ch2 g b w w') (o : Nat) (u : Value) : Ch2 g b w (w'.setCell ⟨b, o, none⟩ u) :=
  ⟨c.os, c.tape, c.output, by simp [World.setCell]; exact c.size, fun k hk h1 h2 => (Below.heap_setCell _ _ _ _ h2).trans (c.block k hk h1 h2)⟩
theorem Ch2.bel {g b : Nat} {w a a' : World} (c : Ch2 g b w a) (h : Below w.heap.size a a') : Ch2 g b w a' :=
  ⟨h.os.trans c.os, h.tape.trans c.tape, h.output.trans c.output, Nat.le_trans c.size h.size, fun k hk h1 h2 => (h.block k hk).trans (c.block k hk h1 h2)⟩
theorem Ch2.trans {g b : Nat} {w a a' : World} (c : Ch2 g b w a) (h : Ch2 g b a a') : Ch2 g b w a' :=
  ⟨h.os.trans c.os, h.tape.trans c.tape, h.output.trans c.output, Nat.le_trans c.size h.size, fun k hk h1 h2 => (h.block k (Nat.lt_of_lt_of_le hk c.size) h1 h2).trans (c.block k hk h1 h2)⟩
theorem Ch2.below {g b B : Nat} {w w' : World} (c : Ch2 g b w w') (h1 : B ≤ g) (h2 : B ≤ b) (h3 : B ≤ w.heap.size) : Below B w w' :=
  ⟨c.os, c.tape, c.output, c.size, fun k hk => c.block k (by omega) (by omega) (by omega)⟩
theorem IsI.ch2 {w w' : World} {g b k off cap len hi : Nat} {xs : List Int} (h : IsI w hi (.slice (some ⟨k, off, none⟩) len cap) xs) (c : Ch2 g b w w') (h1 : k ≠ g) (h2 : k ≠ b) (hh : hi ≤ w.heap.size) : IsI w' hi (.slice (some ⟨k, off, none⟩) len cap) xs := by
  obtain ⟨a, cap', he, hm, hr, hc⟩ := h
  refine ⟨a, cap', he, hm, hr, fun i hi => ?_⟩
  obtain ⟨b', off', rfl, hb, hcell⟩ := hc i hi
  simp only [Value.slice.injEq, Option.some.injEq, Addr.mk.injEq] at he
  obtain ⟨⟨rfl, rfl, -⟩, -, -⟩ := he
  exact ⟨k, off, rfl, hb, fun j hj => (World.cell?_of_block (w := w) (a := ⟨k, off + j, none⟩) (c.block k (by omega) h1 h2)).trans (hcell j hj)⟩
theorem Rd.ch2 {w w' : World} {B g L b c : Nat} (h : Rd w B g L) (hc : Ch2 b c w w') (hB : B ≤ b) (hC : B ≤ c) (h1 : g ≠ b) (h2 : g ≠ c) : Rd w' B g L := by
  have hl := h.lt
  obtain ⟨bv, nb, p, k1, k2, k3, k4, k5⟩ := h
  exact ⟨bv, nb, p, (hc.block g hl h1 h2).trans k1, k2.below (hc.below hB hC (by omega)) (Nat.le_refl _), k3, k4, k5⟩

theorem set_chg (w : World) (b o : Nat) (u : Value) : Chg b (b + 1) w (w.setCell ⟨b, o, none⟩ u) := (Chg.refl b (b + 1) w).setCell (p := ⟨b, o, none⟩) (Nat.le_refl _) (Nat.lt_succ_self _) _
theorem Rd.setb {w : World} {B g L b : Nat} (h : Rd w B g L) (hB : B ≤ b) (h1 : g ≠ b) (o : Nat) (u : Value) : Rd (w.setCell ⟨b, o, none⟩ u) B g L :=
  h.chg (set_chg w b o u) (.inl hB) (by omega)
def DrewRow (w : World) (B g L : Nat) (Q : List Int → Prop) (e : Ending) (w' : World) : Prop :=
  ∃ v xs, e = .returned v ∧ Q xs ∧ OwnI w' w.heap.size v xs ∧ Rd w' B g L ∧ Chg g (g + 1) w w'
def DrewTab (w : World) (B g L : Nat) (Q : List Int → Prop) (e : Ending) (w' : World) : Prop :=
  ∃ b cap xs, e = .returned (.slice (some ⟨b, 0, none⟩) xs.length cap) ∧ Q xs ∧ w.heap.size ≤ b ∧ Wc w' b 0 cap xs ∧ Rd w' B g L ∧ Chg g (g + 1) w w'
theorem Bd.append {b : Int} {xs : List Int} {x : Int} (h : Bd b xs) (hx : -b ≤ x ∧ x ≤ b) : Bd b (xs ++ [x]) := by
  intro k hk
  by_cases e : k < xs.length
  · rw [el_append_left e]; exact h k e
  · simp at hk
    obtain rfl : k = xs.length := by omega
    rw [el_append_right (Nat.le_refl _), Nat.sub_self]; exact hx
theorem Bd.nil (b : Int) : Bd b [] := fun k hk => by simp at hk
theorem Bd.set {b : Int} {xs : List Int} {x : Int} {j : Nat} (h : Bd b xs) (hx : -b ≤ x ∧ x ≤ b) : Bd b (xs.set j x) := by
  intro k hk
  rw [List.length_set] at hk
  by_cases e : j = k
  · subst e; rw [el_set_same hk]; exact hx
  · rw [el_set_other e]; exact h k hk

theorem c_numLitA (w : World) (B g L : Nat) (cs : Array Value) (xs : List Int) (A : Nat) (hA : w.heap.size = A) (hcs : cs = (xs.map (Value.int .i64)).toArray) (hR : R64 xs) (hL : L ≤ 1000000000) (hx : 0 < xs.length) (hxl : xs.length ≤ 1000) (k : Nat) (hk : k = xs.length) (hr : Rd w B g L) :
    Calls Tryz.prog 56 #[.pointer (some ⟨g, 0, none⟩), .slice (some ⟨A, 0, none⟩) k k] (w.alloc (.cells cs 3)) (Drew w B g (L + 1) fun x => x ∈ xs) := by
  subst hA; exact c_numLit w B g L cs xs hcs hR hL hx hxl k hk hr
set_option maxHeartbeats 400000 in
theorem c_l2Some (w : World) (B g L : Nat) (hL : L ≤ 100000) (r : Rd w B g L) :
    Calls Tryz.prog 55 #[.pointer (some ⟨g, 0, none⟩)] w (DrewRow w B g (L + 20) fun p => (1 ≤ p.length ∧ p.length ≤ 6) ∧ Bd 1000 p) := by
  have hgl := r.lt
  have hge := r.ge
  have ho := OwnI.empty w (B := w.heap.size) (c := #[]) (Nat.le_refl _) rfl
  have cc : Chg g (g + 1) w (w.alloc (.cells #[] 3)) := alloc_chg _ _ _ _
  replace r := r.chg (alloc_chg w (.cells #[] 3) B B) (.inl (Nat.le_refl _)) (by omega)
  go_enter Tryz.func55, Tryz.ntmps55
  go_wp2_with fail
  refine (c_numLitA _ _ _ _ _ [10, 100, 1000, 3] (w.heap.size + 1) (by simp) rfl (by intro x hx; simp at hx; omega) (by omega) (by simp) (by simp) _ rfl r).mono ?_
  clear r
  rintro e w2 ⟨size, rfl, sizeq, r, c⟩
  have s2 := c.size
  simp only [List.mem_cons, List.not_mem_nil, or_false] at sizeq
  replace ho := ho.chg c (by omega)
  replace cc := cc.trans c
  clear c
  have hs1 : 3 ≤ size ∧ size ≤ 1000 := by omega
  obtain ⟨z0, z1⟩ := hs1
  clear sizeq
  go_wp2_with fail
  refine (c_pick _ _ _ _ _ (by omega) (by omega) r).mono ?_
  clear r
  rintro e w3 ⟨n, rfl, nq, r, c⟩
  have s3 := c.size
  obtain ⟨n0, n1⟩ := nq.1 (by omega)
  clear nq
  replace ho := ho.chg c (by omega)
  replace cc := cc.trans c
  clear c
  go_wp2
  go_loopw [3, 5] (fun v i wr => ∃ (k : Nat) (xs : List Int), (xs.length + k ≤ 5 ∧ 1 ≤ xs.length + k) ∧ i = .int .i64 k ∧ OwnI wr w.heap.size v xs ∧ Bd 1000 xs ∧ Rd wr B g (L + 2 + 2 * xs.length) ∧ Chg g (g + 1) w wr) (fun _ i _ => (intOf i).toNat)
  case atStart => exact ⟨(n + 1).toNat, [], by simp; omega, by rw [show (((n + 1).toNat : Nat) : Int) = n + 1 by omega, Int.add_comm], ho, Bd.nil _, r.up (by simp), cc⟩
  case round =>
    clear ho r cc
    obtain ⟨k, xs, hk, rfl, ho, HB, r, cc⟩ := hrel
    have HB' := hid HB
    clear HB
    by_cases hlt : 0 < k
    · have hkk : 0 < (k : Int) := by omega
      have hgs := cc.size
      go_wp2_with fail
      refine (c_pick _ _ _ _ _ (by omega) (by omega) r).mono ?_
      clear r
      rintro e w4 ⟨x1, rfl, x1q, r, c⟩
      have s4 := c.size
      obtain ⟨x10, x11⟩ := x1q.1 (by omega)
      clear x1q
      replace ho := ho.chg c (by omega)
      replace cc := cc.trans c
      clear c
      go_wp2_with fail
      refine (c_pick _ _ _ _ _ (by omega) (by omega) r).mono ?_
      clear r
      rintro e w5 ⟨x2, rfl, x2q, r, c⟩
      have s5 := c.size
      obtain ⟨x20, x21⟩ := x2q.1 (by omega)
      clear x2q
      replace ho := ho.chg c (by omega)
      replace cc := cc.trans c
      clear c
      obtain ⟨m0, m1⟩ := mul_bd (a := x1) (b := x2) (A := 256) (B := 256) (by omega) (by omega) (by omega) (by omega) (by omega)
      have m2 := Int.mul_nonneg x10 x20
      have q0 : 0 ≤ (x1 * x2) % (2 * size + 1) := Int.emod_nonneg _ (by omega)
      have q1 : (x1 * x2) % (2 * size + 1) < 2 * size + 1 := Int.emod_lt_of_pos _ (by omega)
      go_wp2_with (at_builtin; refine wpList_appI rfl _ _ _ rfl Tryz.underlying23 Tryz.infoInt w.heap.size _ xs (by rfl) (by rfl) ho (by omega) (by omega) ?_; intro v2 w2 ho2 hb2)
      go_roundw
      case rel =>
        exact ⟨k - 1, xs ++ [(x1 * x2) % (2 * size + 1) - size], by simp; omega, by rw [show ((k - 1 : Nat) : Int) = (k : Int) - 1 by omega], ho2, HB'.out.append (by omega), (r.below hb2 (by omega)).up (by simp; omega), cc.bel hb2⟩
      case measure => simp [intOf]; omega
    · obtain rfl : k = 0 := by omega
      have hgs := cc.size
      go_wp2_with fail
      refine (c_pick _ _ _ _ _ (by omega) (by omega) r).mono ?_
      clear r
      rintro e w6 ⟨y, rfl, yq, r, c⟩
      have s6 := c.size
      obtain ⟨y0, y1⟩ := yq.1 (by omega)
      clear yq
      replace ho := ho.chg c (by omega)
      replace cc := cc.trans c
      clear c
      by_cases hy : y = 0
      · subst hy
        go_wp2_with (at_builtin; refine wpList_appI rfl _ _ _ rfl Tryz.underlying23 Tryz.infoInt w.heap.size _ xs (by rfl) (by rfl) ho (by omega) (by omega) ?_; intro v2 w2 ho2 hb2)
        go_ret
        exact ⟨_, _, rfl, ⟨by simp; omega, HB'.out.append (by omega)⟩, ho2, (r.below hb2 (by omega)).up (by omega), cc.bel hb2⟩
      · have hy' : (y == 0) = false := by simpa using hy
        clear hy
        go_wp2
        go_ret
        exact ⟨_, _, rfl, ⟨by omega, HB'.out⟩, ho, r.up (by omega), cc⟩
end Go.Proofs.YtlinkeemccnfmaaGreatDoor
