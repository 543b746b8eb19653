/- What is proved here: contracts of the drawing of columns. -/
import Derived.Test.YtkaanlldjkflaaaRwsM
import Derived.Test.YtkaanlldjkflaaaDraw0
set_option linter.unusedVariables false
set_option linter.unusedSimpArgs false
set_option maxRecDepth 100000
namespace Go.Proofs.Ytkaanlldjkflaaa
open Go.RowKit

/-- What a call leaves that draws a string. -/
def DrS (w : World) (B g L K : Nat) (e : Ending) (w' : World) : Prop := ∃ s : ByteArray, e = .returned (.string s) ∧ s.size ≤ K ∧ Rd w' B g L ∧ Chg g (g + 1) w w'
theorem Chg.setNew {lo hi : Nat} {w w' : World} (h : Chg lo hi w w') {p : Addr} (hp : w.heap.size ≤ p.block) (u : Value) : Chg lo hi w (w'.setCell p u) :=
  ⟨h.os, h.tape, h.output, by simpa using h.size, fun k hk hn => (Below.heap_setCell _ _ _ _ (by omega)).trans (h.block k hk hn)⟩
/-- Block g holds just the bytes xs. -/
def BlkB (w : World) (g : Nat) (xs : List Int) : Prop := w.heap[g]? = some (.cells (xs.map (Value.int .u8)).toArray 5 (0, 0))
theorem BlkB.lt {w : World} {g : Nat} {xs : List Int} (h : BlkB w g xs) : g < w.heap.size := (Array.getElem?_eq_some_iff.1 h).1
theorem BlkB.cell {w : World} {g : Nat} {xs : List Int} (h : BlkB w g xs) (j : Nat) (hj : j < xs.length) : w.cell? ⟨g, j, none⟩ = some (.int .u8 (el xs j)) := by
  rw [row_cell h, List.getElem?_toArray, List.getElem?_map, List.getElem?_eq_getElem hj, el_lt hj]; rfl
theorem BlkB.free {w : World} {g : Nat} {xs : List Int} (h : BlkB w g xs) (j : Nat) : w.frozen? ⟨g, j, none⟩ = false := row_free h j
theorem BlkB.set {w : World} {g : Nat} {xs : List Int} (h : BlkB w g xs) (j : Nat) (x : Int) : BlkB (w.setCell ⟨g, j, none⟩ (.int .u8 x)) g (xs.set j x) := by
  unfold BlkB at h ⊢
  rw [row_set h]; simp [List.map_set]
theorem BlkB.chg {w w' : World} {g lo hi : Nat} {xs : List Int} (h : BlkB w g xs) (hb : Chg lo hi w w') (hg : g < lo ∨ hi ≤ g) : BlkB w' g xs := (hb.block g h.lt (by omega)).trans h
theorem set_chgE (w : World) (b o : Nat) (u : Value) : Chg b (b + 1) w (w.setCell ⟨b, o, none⟩ u) := (Chg.refl b (b + 1) w).setCell (p := ⟨b, o, none⟩) (Nat.le_refl _) (Nat.lt_succ_self _) _
theorem made_zeroB (n : Nat) : madeCells #[Value.int .u8 0] n = ((List.replicate n (0 : Int)).map (Value.int .u8)).toArray := by
  apply Array.ext'
  rw [toList_madeCells_one]; simp
theorem c_l1Any (w : World) (B g L : Nat) (hL : L ≤ 100000) (r : Rd w B g L) :
    Calls Try.prog 90 #[.pointer (some ⟨g, 0, none⟩)] w (Drew w B g (L + 1) fun x => 1 ≤ x ∧ x ≤ 12) := by
  have hsz := r.lt
  go_enter Try.func90, Try.ntmps90
  go_wp2_with fail
  refine (c_numLit _ _ _ _ _ [4, 6, 1, 2, 3, 5, 8, 12] rfl (by intro x hx; simp at hx; omega) (by omega) (by simp) (by simp) _ rfl r).mono ?_
  rintro e w1 ⟨x, rfl, q, r1, c⟩
  simp only [List.mem_cons, List.not_mem_nil, or_false] at q
  go_wp2
  go_ret
  exact ⟨x, rfl, by omega, r1, c⟩
theorem c_l9Many (n : Int) (w : World) (h0 : 0 ≤ n) (h1 : n < 16) :
    Calls Try.prog 101 #[.string ⟨#[57]⟩, .int .i64 n] w fun e w' => ∃ s : ByteArray, e = .returned (.string s) ∧ s.size ≤ 16 ∧ w = w' := by
  go_enter Try.func101, Try.ntmps101
  go_wp2
  go_loopw [0, 1, 5] (fun s x o wr => ∃ (q P : Nat) (X : Int) (a b : ByteArray), x = .int .i64 X ∧ s = .string a ∧ o = .string b ∧ 0 ≤ X ∧ Hid (P = 2 ^ q) ∧ Hid (X < P) ∧ Hid (a.size * P ≤ 16) ∧ Hid (b.size * P ≤ 16) ∧ 1 ≤ P ∧ (q ≤ 4 ∧ X < 16) ∧ w = wr) (fun _ x _ _ => (intOf x).toNat)
  case atStart => exact ⟨4, 16, n, _, _, rfl, rfl, rfl, h0, rfl, h1, by show 1 * 16 ≤ 16; omega, by show 0 * 16 ≤ 16; omega, by omega, by omega, rfl⟩
  case round =>
    obtain ⟨q, P, X, a, b, rfl, rfl, rfl, hX0, HP, HX, HA, HB, hP1, ⟨hq, hX16⟩, rfl⟩ := hrel
    have ha : a.size ≤ 16 := Nat.le_trans (Nat.le_mul_of_pos_right _ (by omega)) HA.out
    have hb : b.size ≤ 16 := Nat.le_trans (Nat.le_mul_of_pos_right _ (by omega)) HB.out
    by_cases hp : 0 < X
    · have hxp := HX.out
      have hq0 : q ≠ 0 := by rintro rfl; have := HP.out; simp at this; omega
      obtain ⟨p, rfl⟩ : ∃ p, q = p + 1 := ⟨q - 1, by omega⟩
      obtain ⟨R, hR⟩ : ∃ R, R = 2 ^ p := ⟨_, rfl⟩
      have HR := hid hR
      have hPR : P = 2 * R := by rw [HP.out, hR, Nat.pow_succ]; omega
      have hPR' := hid hPR
      have HA2 := hid (show a.size * R * 2 ≤ 16 by have := HA.out; rw [hPR, Nat.mul_comm 2 R, ← Nat.mul_assoc] at this; exact this)
      have HB2 := hid (show b.size * R * 2 ≤ 16 by have := HB.out; rw [hPR, Nat.mul_comm 2 R, ← Nat.mul_assoc] at this; exact this)
      have hR1 : 1 ≤ R := by omega
      have hsum1 : ¬ (a.size + a.size > 9223372036854775807) := by omega
      have hsum2 : ¬ (b.size + a.size > 9223372036854775807) := by omega
      have HXR := hid (show X / 2 < (R : Int) by omega)
      clear hR hPR hxp
      by_cases hodd : X % 2 = 1
      · have ho : (X % 2 == 1) = true := by simpa using hodd
        clear hodd
        go_wp2
        go_roundw
        case rel => exact ⟨p, R, X / 2, a ++ a, b ++ a, rfl, rfl, rfl, by omega, HR.out, HXR.out, by show _ ≤ _; rw [ByteArray.size_append, Nat.add_mul]; have := HA2.out; omega, by show _ ≤ _; rw [ByteArray.size_append, Nat.add_mul]; have := HA2.out; have := HB2.out; omega, hR1, by omega, trivial⟩
        case measure => simp [intOf]; omega
      · have ho : (X % 2 == 1) = false := by simpa using hodd
        clear hodd
        go_wp2
        go_roundw
        case rel => exact ⟨p, R, X / 2, a ++ a, b, rfl, rfl, rfl, by omega, HR.out, HXR.out, by show _ ≤ _; rw [ByteArray.size_append, Nat.add_mul]; have := HA2.out; omega, by show _ ≤ _; have := HB2.out; omega, hR1, by omega, trivial⟩
        case measure => simp [intOf]; omega
    · go_wp2
      go_ret
      exact ⟨b, rfl, hb, rfl⟩
theorem c_ofLit (w : World) (B g L : Nat) (cs : Array Value) (ss : List ByteArray) (hcs : cs = (ss.map Value.string).toArray) (hL : L ≤ 100000) (hx : 0 < ss.length) (hxl : ss.length ≤ 1000) (k : Nat) (hk : k = ss.length) (hs : ∀ i, i < ss.length → (tC ss i).size ≤ 4) (r : Rd w B g L) :
    Calls Try.prog 100 #[.pointer (some ⟨g, 0, none⟩), .slice (some ⟨w.heap.size, 0, none⟩) k k] (w.alloc (.cells cs 9)) fun e w' => ∃ s : ByteArray, e = .returned (.string s) ∧ s.size ≤ 4 ∧ Rd w' B g (L + 1) ∧ Chg g (g + 1) w w' := by
  subst hk hcs
  have hlt := r.lt
  have hge := r.ge
  have hr1 := r.chg (alloc_chg w (.cells (ss.map Value.string).toArray 9) B B) (.inl (Nat.le_refl _)) (by omega)
  have HC := hid (fun j (hj : j < ss.length) => (show (w.alloc (.cells (ss.map Value.string).toArray 9)).cell? ⟨w.heap.size, j, none⟩ = some (.string (tC ss j)) by rw [row_cell (heap_alloc_new w _), List.getElem?_toArray, map_str_at _ _ hj]))
  have HS := hid hs
  have c0 := alloc_chg w (.cells (ss.map Value.string).toArray 9) g (g + 1)
  have hlA : w.heap.size < (w.alloc (.cells (ss.map Value.string).toArray 9)).heap.size := by simp
  obtain ⟨wA, hwA⟩ : ∃ x, w.alloc (.cells (ss.map Value.string).toArray 9) = x := ⟨_, rfl⟩
  rw [hwA] at hr1 HC c0 hlA ⊢
  clear hwA hs r
  go_enter Try.func100, Try.ntmps100
  go_wp2_with fail
  refine (c_pick _ B g L _ (by omega) (by omega) hr1).mono ?_
  rintro e w1 ⟨x, rfl, hx1, r1, c1⟩
  obtain ⟨x0, x1⟩ := hx1.1 (by omega)
  obtain ⟨j, rfl⟩ : ∃ j : Nat, x = j := ⟨x.toNat, by omega⟩
  have hj : j < ss.length := by omega
  have hce : w1.cell? ⟨w.heap.size, j, none⟩ = some (.string (tC ss j)) := (World.cell?_of_block (w := wA) (a := ⟨w.heap.size, j, none⟩) (c1.block w.heap.size hlA (by omega))).trans (HC.out j hj)
  go_wp2
  go_ret
  exact ⟨tC ss j, rfl, HS.out j hj, r1, c0.trans c1⟩
theorem c_l1Bad (w : World) (B g L : Nat) (c : ByteArray) (hL : L ≤ 50000) (hc : c.size ≤ 1000000) (r : Rd w B g L) :
    Calls Try.prog 91 #[.pointer (some ⟨g, 0, none⟩), .string c] w (DrS w B g (L + 2) (c.size + 64)) := by
  have hsz := r.lt
  go_enter Try.func91, Try.ntmps91
  go_wp2_with fail
  refine (c_pick _ _ _ _ _ (by omega) (by omega) r).mono ?_
  clear r
  rintro e w1 ⟨x, rfl, q, r, c1⟩
  have s1 := c1.size
  obtain ⟨x0, x1⟩ := q.1 (by omega)
  clear q
  by_cases h0 : x = 0
  · have t0 : (x == 0) = true := by simpa using h0
    go_wp2_with fail
    refine (c_ofLit w1 B g (L + 1) _ [⟨#[120]⟩, ⟨#[45]⟩, ⟨#[32]⟩, ⟨#[48]⟩] rfl (by omega) (by simp) (by simp) _ rfl (fun i hi => by
      have : i = 0 ∨ i = 1 ∨ i = 2 ∨ i = 3 := by simp at hi; omega
      rcases this with rfl | rfl | rfl | rfl <;> decide) r).mono ?_
    rintro e w2 ⟨s, rfl, hs, r2, c2⟩
    have hsum : ¬ (c.size + s.size > 9223372036854775807) := by omega
    go_wp2
    go_ret
    exact ⟨_, rfl, by rw [ByteArray.size_append]; omega, r2, c1.trans c2⟩
  · have t0 : (x == 0) = false := by simpa using h0
    by_cases h1 : x = 1
    · have t1 : (x == 1) = true := by simpa using h1
      go_wp2
      go_ret
      exact ⟨_, rfl, by show 0 ≤ _; omega, r.up (by omega), c1⟩
    · have t1 : (x == 1) = false := by simpa using h1
      by_cases h2 : x = 2
      · have t2 : (x == 2) = true := by simpa using h2
        go_wp2_with fail
        refine (c_numLit _ _ _ _ _ [12, 13] rfl (by intro x hx; simp at hx; omega) (by omega) (by simp) (by simp) _ rfl r).mono ?_
        rintro e w2 ⟨y, rfl, q, r2, c2⟩
        simp only [List.mem_cons, List.not_mem_nil, or_false] at q
        go_wp2_with fail
        refine (c_l9Many y _ (by omega) (by omega)).mono ?_
        rintro e w3 ⟨s, rfl, hs, rfl⟩
        go_wp2
        go_ret
        exact ⟨_, rfl, by omega, r2, c1.trans c2⟩
      · have t2 : (x == 2) = false := by simpa using h2
        go_wp2
        go_ret
        exact ⟨_, rfl, by omega, r.up (by omega), c1⟩
theorem c_l1Some (w : World) (B g L wd : Nat) (hL : L ≤ 50000) (hw : wd ≤ 64) (r : Rd w B g L) :
    Calls Try.prog 69 #[.pointer (some ⟨g, 0, none⟩), .int .i64 wd] w (DrS w B g (L + 140) 64) := by
  have hsz := r.lt
  have hge := r.ge
  have hmk := mk_bytes wd (by omega)
  have HM := hid (made_zeroB wd)
  generalize madeCells #[Value.int .u8 0] wd = mc at *
  go_enter Try.func69, Try.ntmps69
  go_wp2_with fail
  have cA := alloc_chg w (.cells mc 5) g (g + 1)
  have rA := r.chg (alloc_chg w (.cells mc 5) B B) (.inl (Nat.le_refl _)) (by omega)
  have bA : BlkB (w.alloc (.cells mc 5)) w.heap.size (List.replicate wd 0) := by unfold BlkB; rw [← HM.out]; exact heap_alloc_new w _
  obtain ⟨wA, hwA⟩ : ∃ x, w.alloc (.cells mc 5) = x := ⟨_, rfl⟩
  rw [hwA] at cA rA bA ⊢
  clear r hmk hwA HM
  refine (c_pick _ _ _ _ _ (by omega) (by omega) rA).mono ?_
  clear rA
  rintro e w1 ⟨m, rfl, q, r, c1⟩
  obtain ⟨m0, m1⟩ := q.1 (by omega)
  clear q
  replace bA := bA.chg c1 (by omega)
  replace cA := cA.trans c1
  clear c1
  obtain ⟨gB, hgB⟩ : ∃ x, w.heap.size = x := ⟨_, rfl⟩
  have HGB := hid hgB
  rw [hgB] at bA hsz
  go_wp2
  clear hgB
  go_loopw [7] (fun i wr => ∃ (j : Nat) (ys : List Int), j ≤ wd ∧ i = .int .i64 j ∧ Hid (ys.length = wd) ∧ BlkB wr gB ys ∧ Rd wr B g (L + 1 + 2 * j) ∧ Chg g (g + 1) w wr) (fun i _ => wd - (intOf i).toNat)
  case atStart => exact ⟨0, List.replicate wd 0, Nat.zero_le _, rfl, by show _ = _; simp, bA, r, cA⟩
  case round =>
    obtain ⟨j, ys, hj, rfl, HY, bb, rr, cr⟩ := hrel
    clear bA r cA
    by_cases hlt : j < wd
    · have q0 : (0 : Int) ≤ (j : Int) := by omega
      have q1 : (j : Int) < wd := by omega
      go_wp2_with fail
      refine (c_pick _ _ _ _ _ (by omega) (by omega) rr).mono ?_
      clear rr
      rintro e w2 ⟨x, rfl, q, r2, c2⟩
      obtain ⟨x0, x1⟩ := q.1 (by omega)
      clear q
      have b2 := bb.chg c2 (by omega)
      have c3 := cr.trans c2
      have k5 : IntKind.u8.wrap (48 + x) = 48 + x := IntWalk.u8_in _ (by omega)
      have cc := b2.cell j (by rw [HY.out]; exact hlt)
      have ff := b2.free j
      have b4 := b2.set j (48 + x)
      have r4 := r2.chg (set_chgE w2 gB j (.int .u8 (48 + x))) (by have := HGB.out; omega) (by omega)
      have c4 := c3.setNew (p := ⟨gB, j, none⟩) (show w.heap.size ≤ gB by have := HGB.out; omega) (.int .u8 (48 + x))
      obtain ⟨w4, hw4⟩ : ∃ y, w2.setCell ⟨gB, j, none⟩ (.int .u8 (48 + x)) = y := ⟨_, rfl⟩
      rw [hw4] at b4 r4 c4
      clear bb cr c2 c3
      by_cases hm : m = 0
      · have tm : (m == 0) = true := by simpa using hm
        clear hm
        go_wp2_with fail
        clear hw4 r2 b2 cc ff
        refine (c_pick _ _ _ _ _ (by omega) (by omega) r4).mono ?_
        clear r4
        rintro e w5 ⟨y, rfl, q, r5, c5⟩
        obtain ⟨y0, y1⟩ := q.1 (by omega)
        clear q
        have b5 := b4.chg c5 (by omega)
        have c6 := c4.trans c5
        have cc := b5.cell j (by rw [List.length_set, HY.out]; exact hlt)
        have ff := b5.free j
        obtain ⟨z, hz⟩ : ∃ z : Nat, y = z := ⟨y.toNat, by omega⟩
        have hzz : z = 0 ∨ z = 1 ∨ z = 2 ∨ z = 3 := by omega
        clear c4 c5 b4
        rcases hzz with rfl | rfl | rfl | rfl <;> subst hz <;>
        · go_wp2
          go_roundw
          case rel => exact ⟨j + 1, _, by omega, by go_num, by show _ = _; simpa using HY.out, b5.set j _, (r5.up (by omega)).chg (set_chgE w5 gB j _) (by have := HGB.out; omega) (by omega), c6.setNew (p := ⟨gB, j, none⟩) (show w.heap.size ≤ gB by have := HGB.out; omega) _⟩
          case measure => simp [intOf]; omega
      · have tm : (m == 0) = false := by simpa using hm
        clear hm
        go_wp2
        go_roundw
        case rel => exact ⟨j + 1, _, by omega, by go_num, by show _ = _; rw [List.length_set]; exact HY.out, b4, r4.up (by omega), c4⟩
        case measure => simp [intOf]; omega
    · obtain rfl : j = wd := by omega
      have hcv := run_convert_bytes_arg wr 31 5 Try.underlying31 Try.underlying5 gB 0 j j ys HY.out (fun i hi => by
        rw [Nat.zero_add]
        exact bb.cell i (by rw [HY.out]; exact hi)) 9 Try.underlying9
      go_wp2
      go_ret
      exact ⟨_, rfl, by rw [strOfNums_size, HY.out]; exact hw, rr.up (by omega), cr⟩
end Go.Proofs.Ytkaanlldjkflaaa
