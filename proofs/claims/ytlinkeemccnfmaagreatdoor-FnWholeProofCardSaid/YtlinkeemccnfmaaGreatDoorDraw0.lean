/- What is proved here: those statements of Draw0 that this claim needs. -/
import Derived.Test.YtlinkeemccnfmaaGreatDoorNum
set_option linter.unusedVariables false
set_option linter.unusedSimpArgs false
namespace Go.Proofs.YtlinkeemccnfmaaGreatDoor
open Go.RowKit
def Rd (w : World) (B g L : Nat) : Prop :=
  ∃ (bv : Value) (nb p : Nat), w.heap[g]? = some (.cells #[bv, .int .i64 p] 78 (0, 0)) ∧ IsBy w B bv nb ∧ nb ≤ 2000 ∧ p ≤ L ∧ B ≤ g
theorem Rd.up {w : World} {B g L L' : Nat} (h : Rd w B g L) (hL : L ≤ L') : Rd w B g L' := by
  obtain ⟨bv, nb, p, h1, h2, h3, h4, h5⟩ := h; exact ⟨bv, nb, p, h1, h2, h3, by omega, h5⟩
theorem Rd.lt {w : World} {B g L : Nat} (h : Rd w B g L) : g < w.heap.size := by
  obtain ⟨bv, nb, p, h1, h2, h3, h4, h5⟩ := h; exact (Array.getElem?_eq_some_iff.1 h1).1
theorem Rd.ge {w : World} {B g L : Nat} (h : Rd w B g L) : B ≤ g := by
  obtain ⟨bv, nb, p, h1, h2, h3, h4, h5⟩ := h; exact h5
theorem Rd.below {w w' : World} {B g L B' : Nat} (h : Rd w B g L) (hb : Below B' w w') (hg : g < B') : Rd w' B g L := by
  obtain ⟨bv, nb, p, h1, h2, h3, h4, h5⟩ := h
  exact ⟨bv, nb, p, (hb.block g hg).trans h1, h2.below hb (by omega), h3, h4, h5⟩
theorem IsBy.chg {w w' : World} {B lo hi : Nat} {v : Value} {n : Nat} (h : IsBy w B v n) (hb : Chg lo hi w w') (hB : B ≤ lo ∨ hi ≤ lo) (hs : B ≤ w.heap.size) : IsBy w' B v n := h.below (hb.below hB hs) (Nat.le_refl _)
theorem Rd.chg {w w' : World} {B g L lo hi : Nat} (h : Rd w B g L) (hb : Chg lo hi w w') (hB : B ≤ lo ∨ hi ≤ lo) (hg : g < lo ∨ hi ≤ g) : Rd w' B g L := by
  have hl := h.lt
  obtain ⟨bv, nb, p, h1, h2, h3, h4, h5⟩ := h
  exact ⟨bv, nb, p, (hb.block g hl (by omega)).trans h1, h2.chg hb hB (by omega), h3, h4, h5⟩
def InR (n x : Int) : Prop := (1 ≤ n → 0 ≤ x ∧ x < n) ∧ (n < 1 → x = 0)
def Drew (w : World) (B g L : Nat) (Q : Int → Prop) (e : Ending) (w' : World) : Prop :=
  ∃ x : Int, e = .returned (.int .i64 x) ∧ Q x ∧ Rd w' B g L ∧ Chg g (g + 1) w w'

theorem xor64 {x : Int} (h0 : 0 ≤ x) (h1 : x < 4611686018427387904) : 0 ≤ bits .xor .i64 x (x / 64) ∧ bits .xor .i64 x (x / 64) < 4611686018427387904 := by
  obtain ⟨a, rfl⟩ : ∃ a : Nat, x = a := ⟨x.toNat, by omega⟩
  have hd : ((a : Int) / 64) = ((a / 64 : Nat) : Int) := by omega
  rw [hd]
  have hx : a ^^^ (a / 64) < 2 ^ 62 := Nat.xor_lt_two_pow (by omega) (by omega)
  have e1 : (BitVec.ofInt 64 (a : Int)).toNat = a := by
    rw [BitVec.ofInt_natCast, BitVec.toNat_ofNat]; exact Nat.mod_eq_of_lt (by omega)
  have e2 : (BitVec.ofInt 64 ((a / 64 : Nat) : Int)).toNat = a / 64 := by
    rw [BitVec.ofInt_natCast, BitVec.toNat_ofNat]; exact Nat.mod_eq_of_lt (by omega)
  have e3 : bits .xor .i64 (a : Int) ((a / 64 : Nat) : Int) = ((a ^^^ (a / 64) : Nat) : Int) := by
    show IntKind.i64.wrap ((BitVec.ofInt 64 (a : Int) ^^^ BitVec.ofInt 64 ((a / 64 : Nat) : Int)).toNat : Int) = _
    rw [BitVec.toNat_xor, e1, e2, IntKind.wrap_i64]
    omega
  rw [e3]
  omega

theorem bel_rd {w : World} {B g L : Nat} (h : Rd w B g L) (n : Nat) : Rd (w.drewN n) B g L := h
theorem c_pick (w : World) (B g L : Nat) (n : Int) (hL : L ≤ 1000000000) (hn : n ≤ 4611686018427387904) (hr : Rd w B g L) :
    Calls Tryz.prog 23 #[.pointer (some ⟨g, 0, none⟩), .int .i64 n] w (Drew w B g (L + 1) (InR n)) := by
  obtain ⟨bv, nb, p, hg, hby, hnb, hp, hBg⟩ := hr
  have hgl := (Array.getElem?_eq_some_iff.1 hg).1
  have HG := hid hg
  have hc0 : w.cell? ⟨g, 0, none⟩ = some bv := by rw [row_cell hg]; rfl
  have hc1 : w.cell? ⟨g, 1, none⟩ = some (.int .i64 p) := by rw [row_cell hg]; rfl
  have hf := row_free hg 1
  have hR : Hid (Rd (w.setCell ⟨g, 1, none⟩ (.int .i64 (p + 1))) B g (L + 1)) := by
    refine ⟨bv, nb, p + 1, ?_, ?_, hnb, by omega, hBg⟩
    · rw [row_set hg]; simp
    · exact hby.below ((Below.refl B w).setCell (p := ⟨g, 1, none⟩) hBg _) (Nat.le_refl _)
  have hC : Hid (Chg g (g + 1) w (w.setCell ⟨g, 1, none⟩ (.int .i64 (p + 1)))) := by
    show Chg g (g + 1) w _
    exact (Chg.refl g (g + 1) w).setCell (p := ⟨g, 1, none⟩) (Nat.le_refl _) (Nat.lt_succ_self _) _
  obtain ⟨a, cap, rfl, hm, hcb⟩ := hby
  clear hg hm
  by_cases h1 : 1 ≤ n
  · by_cases h2 : nb = 0
    · subst h2
      go_enter Tryz.func23, Tryz.ntmps23
      go_wp2
      go_ret
      exact ⟨0, rfl, ⟨fun _ => by omega, fun h => by omega⟩, hR.out, hC.out⟩
    · have h3 : ((nb : Int) == 0) = false := by simp; omega
      by_cases h4 : p < nb
      · obtain ⟨b, off, rfl, hb, hcell⟩ := hcb p h4
        obtain ⟨y, y0, y1, hy⟩ := hcell p h4
        have hy' : (w.setCell ⟨g, 1, none⟩ (.int .i64 (p + 1))).cell? ⟨b, off + p, none⟩ = some (.int .u8 y) := ((Below.refl B w).setCell (p := ⟨g, 1, none⟩) hBg _).cell (p := ⟨b, off + p, none⟩) hb |>.trans hy
        clear hcb hcell h2
        go_enter Tryz.func23, Tryz.ntmps23
        go_wp2
        go_ret
        exact ⟨_, rfl, ⟨fun _ => ⟨Int.emod_nonneg _ (by omega), Int.emod_lt_of_pos _ (by omega)⟩, fun h => by omega⟩, hR.out, hC.out⟩
      · obtain ⟨b, off, rfl, hb, hcell⟩ := hcb 0 (by omega)
        have hq1 : p % nb < nb := Nat.mod_lt _ (by omega)
        have hq2 : (p * 7 + 3) % nb < nb := Nat.mod_lt _ (by omega)
        obtain ⟨y, y0, y1, hy⟩ := hcell (p % nb) hq1
        obtain ⟨z, z0, z1, hz⟩ := hcell ((p * 7 + 3) % nb) hq2
        have hy' : (w.setCell ⟨g, 1, none⟩ (.int .i64 (p + 1))).cell? ⟨b, off + p % nb, none⟩ = some (.int .u8 y) := ((Below.refl B w).setCell (p := ⟨g, 1, none⟩) hBg _).cell (p := ⟨b, off + p % nb, none⟩) hb |>.trans hy
        have hz' : (w.setCell ⟨g, 1, none⟩ (.int .i64 (p + 1))).cell? ⟨b, off + (p * 7 + 3) % nb, none⟩ = some (.int .u8 z) := ((Below.refl B w).setCell (p := ⟨g, 1, none⟩) hBg _).cell (p := ⟨b, off + (p * 7 + 3) % nb, none⟩) hb |>.trans hz
        have q0 : 0 ≤ (p : Int) / nb := Int.ediv_nonneg (by omega) (by omega)
        have q1 : (p : Int) / nb ≤ p := Int.ediv_le_self _ (by omega)
        have h2' : ¬ (nb : Int) = 0 := by omega
        have e1 : (p : Int).tmod (nb : Int) = (p : Int) % nb := Int.tmod_eq_emod_of_nonneg (by omega)
        have e2 : ((p : Int) * 7 + 3).tmod (nb : Int) = ((p : Int) * 7 + 3) % nb := Int.tmod_eq_emod_of_nonneg (by omega)
        have e4 : ((p : Int) % nb).toNat = p % nb := by rw [← Int.natCast_emod]; rfl
        have e5 : (((p : Int) * 7 + 3) % nb).toNat = (p * 7 + 3) % nb := by
          rw [show (p : Int) * 7 + 3 = ((p * 7 + 3 : Nat) : Int) from by omega, ← Int.natCast_emod]; rfl
        have e3 : (p : Int).tdiv (nb : Int) = (p : Int) / nb := Int.tdiv_eq_ediv_of_nonneg (by omega)
        have g1 : (p : Int) % nb < nb := Int.emod_lt_of_pos _ (by omega)
        have g2 : ((p : Int) * 7 + 3) % nb < nb := Int.emod_lt_of_pos _ (by omega)
        have g3 : 0 ≤ (p : Int) % nb := Int.emod_nonneg _ (by omega)
        have g4 : 0 ≤ ((p : Int) * 7 + 3) % nb := Int.emod_nonneg _ (by omega)
        clear hcb hcell
        go_enter Tryz.func23, Tryz.ntmps23
        go_wp2
        have k1 : IntKind.i64.wrap (y * 131) = y * 131 := IntWalk.i64_in _ (by omega)
        have k2 : IntKind.i64.wrap ((p : Int) * 7) = (p : Int) * 7 := IntWalk.i64_in _ (by omega)
        have k3 : IntKind.i64.wrap ((p : Int) * 7 + 3) = (p : Int) * 7 + 3 := IntWalk.i64_in _ (by omega)
        have k4 : IntKind.i64.wrap (z * 1117) = z * 1117 := IntWalk.i64_in _ (by omega)
        have k5 : IntKind.i64.wrap (y * 131 + z * 1117) = y * 131 + z * 1117 := IntWalk.i64_in _ (by omega)
        have k6 : IntKind.i64.wrap ((p : Int) * 29) = (p : Int) * 29 := IntWalk.i64_in _ (by omega)
        have k7 : IntKind.i64.wrap (y * 131 + z * 1117 + (p : Int) * 29) = y * 131 + z * 1117 + (p : Int) * 29 := IntWalk.i64_in _ (by omega)
        have k8 : IntKind.i64.wrap ((p : Int) / nb) = (p : Int) / nb := IntWalk.i64_in _ (by omega)
        have k9 : IntKind.i64.wrap ((p : Int) / nb * 53) = (p : Int) / nb * 53 := IntWalk.i64_in _ (by omega)
        have k10 : IntKind.i64.wrap (y * 131 + z * 1117 + (p : Int) * 29 + (p : Int) / nb * 53) = y * 131 + z * 1117 + (p : Int) * 29 + (p : Int) / nb * 53 := IntWalk.i64_in _ (by omega)
        go_quiet (fail)
        have hX0 : 0 ≤ y * 131 + z * 1117 + (p : Int) * 29 + (p : Int) / nb * 53 := by omega
        have hX1 : y * 131 + z * 1117 + (p : Int) * 29 + (p : Int) / nb * 53 < 4611686018427387904 := by omega
        obtain ⟨x0, x1⟩ := xor64 hX0 hX1
        clear k1 k2 k3 k4 k5 k6 k7 k8 k9 k10 e1 e2 e3 e4 e5 g1 g2 g3 g4 hy' hz' hy hz
        generalize y * 131 + z * 1117 + (p : Int) * 29 + (p : Int) / nb * 53 = X at *
        go_wp2
        go_ret
        exact ⟨_, rfl, ⟨fun _ => ⟨Int.emod_nonneg _ (by omega), Int.emod_lt_of_pos _ (by omega)⟩, fun h => by omega⟩, bel_rd hR.out _, hC.out.drewN _⟩
  · go_enter Tryz.func23, Tryz.ntmps23
    go_wp2
    go_ret
    exact ⟨0, rfl, ⟨fun _ => by omega, fun h => rfl⟩, hR.out, hC.out⟩

theorem heap_new_at (w : World) (c : Array Value) (e : TypeId) : (w.alloc (.cells c e)).heap[w.heap.size]? = some (.cells c e (0, 0)) := heap_alloc_new w _
theorem c_num (w : World) (B g L C : Nat) (v : Value) (xs : List Int) (hL : L ≤ 1000000000) (hx : 0 < xs.length) (hxl : xs.length ≤ 1000) (hr : Rd w B g L) (hv : IsI w C v xs) (hC : C ≤ w.heap.size) (hg : ∀ i, i < xs.length → ∃ b off cap, v = .slice (some ⟨b, off, none⟩) xs.length cap ∧ b ≠ g) :
    Calls Tryz.prog 56 #[.pointer (some ⟨g, 0, none⟩), v] w (Drew w B g (L + 1) fun x => x ∈ xs) := by
  obtain ⟨b, off, cap, rfl, hbg⟩ := hg 0 hx
  obtain ⟨a, cap', hva, hm, hR64, hc⟩ := hv
  obtain ⟨b', off', ha, hb, hcell⟩ := hc 0 hx
  simp only [Value.slice.injEq] at hva
  obtain ⟨h1, h2, h3⟩ := hva
  subst h1
  simp only [Option.some.injEq, Addr.mk.injEq] at ha
  obtain ⟨rfl, rfl, -⟩ := ha
  have HCell := hid hcell
  unfold maxLen at hm
  clear hcell hc hg hR64 h2 h3
  go_enter Tryz.func56, Tryz.ntmps56
  go_wp2_with fail
  refine (c_pick _ B g L _ hL (by omega) hr).mono ?_
  rintro e w1 ⟨x, rfl, hx1, hr1, hc1⟩
  obtain ⟨x0, x1⟩ := hx1.1 (by omega)
  obtain ⟨j, rfl⟩ : ∃ j : Nat, x = j := ⟨x.toNat, by omega⟩
  have hce : w1.cell? ⟨b, off + j, none⟩ = some (.int .i64 (el xs j)) := by
    rw [World.cell?_of_block (w := w) (hc1.block b (by omega) (by show ¬ (g ≤ b ∧ b < g + 1); omega))]
    exact HCell.out j (by omega)
  have hxx : Hid (el xs j ∈ xs) := el_mem (by omega)
  clear hx1
  go_wp2
  go_ret
  exact ⟨_, rfl, hxx.out, hr1, hc1⟩

theorem c_l9Open (w : World) (v : Value) (n : Nat) (hv : IsBy w w.heap.size v n) :
    Calls Tryz.prog 20 #[v] w fun e w' => e = .returned (.pointer (some ⟨w.heap.size, 0, none⟩)) ∧ Rd w' w.heap.size w.heap.size 0 ∧ Below w.heap.size w w' ∧ w'.heap.size = w.heap.size + 1 := by
  obtain ⟨a, cap, rfl, hm, hc⟩ := hv
  have HC := hid hc
  unfold maxLen at hm
  clear hc
  have hblk : ∀ (m c : Nat), Hid (m ≤ n ∧ m ≤ 2000 ∧ m ≤ c ∧ c ≤ maxLen → Rd (w.alloc (.cells #[.slice a m c, .int .i64 0] 78)) w.heap.size w.heap.size 0) := by
    intro m c
    show m ≤ n ∧ m ≤ 2000 ∧ m ≤ c ∧ c ≤ maxLen → _
    intro h
    refine ⟨.slice a m c, m, 0, heap_new_at w _ _, ⟨a, c, rfl, ⟨h.2.2.1, h.2.2.2⟩, fun i hi => ?_⟩, h.2.1, Nat.le_refl _, Nat.le_refl _⟩
    obtain ⟨b, off, rfl, hb, hcell⟩ := HC.out i (by omega)
    refine ⟨b, off, rfl, hb, fun j hj => ?_⟩
    obtain ⟨y, y0, y1, hy⟩ := hcell j (by omega)
    exact ⟨y, y0, y1, by rw [World.cell?_alloc_past _ _ _ hb]; exact hy⟩
  by_cases h : 2000 < n
  · obtain ⟨b, off, rfl, hb, hcell⟩ := HC.out 0 (by omega)
    clear hcell
    go_enter Tryz.func20, Tryz.ntmps20
    go_wp2
    go_ret
    exact ⟨rfl, (hblk _ _).out ⟨by omega, by omega, by omega, by unfold maxLen; omega⟩, RetRow.e1 _ _, by simp⟩
  · go_enter Tryz.func20, Tryz.ntmps20
    go_wp2
    go_ret
    exact ⟨rfl, (hblk _ _).out ⟨by omega, by omega, by omega, by unfold maxLen; omega⟩, RetRow.e1 _ _, by simp⟩

theorem alloc_chg (w : World) (o : Obj) (lo hi : Nat) : Chg lo hi w (w.alloc o) := ⟨rfl, rfl, rfl, by simp, fun k hk _ => Below.heap_alloc _ _ _ hk⟩
theorem c_numLit (w : World) (B g L : Nat) (cs : Array Value) (xs : List Int) (hcs : cs = (xs.map (Value.int .i64)).toArray) (hR : R64 xs) (hL : L ≤ 1000000000) (hx : 0 < xs.length) (hxl : xs.length ≤ 1000) (k : Nat) (hk : k = xs.length) (hr : Rd w B g L) :
    Calls Tryz.prog 56 #[.pointer (some ⟨g, 0, none⟩), .slice (some ⟨w.heap.size, 0, none⟩) k k] (w.alloc (.cells cs 3)) (Drew w B g (L + 1) fun x => x ∈ xs) := by
  subst hk
  have hb := Blk.new (w := w) hcs
  have hlt := hr.lt
  have hge := hr.ge
  refine (c_num (w.alloc (.cells cs 3)) B g L (w.heap.size + 1) _ xs hL hx hxl (hr.chg (alloc_chg w _ B B) (.inl (Nat.le_refl _)) (by omega)) (hb.isI (by omega) (by unfold maxLen; omega) hR) (by simp) (fun i hi => ⟨_, _, _, rfl, by omega⟩)).mono ?_
  rintro e w' ⟨x, he, hq, h1, h2⟩
  exact ⟨x, he, hq, h1, (alloc_chg w _ _ _).trans h2⟩

end Go.Proofs.YtlinkeemccnfmaaGreatDoor
