/- What is proved here: those statements of DrE2, DrE3, DrE4, Tm, Slr, SlM that this claim needs. -/
import Derived.Test.YtlinkeemccnfmaaGreatDoorRwsM
import Derived.Test.YtlinkeemccnfmaaGreatDoorDraw0
import Derived.Test.YtlinkeemccnfmaaGreatDoorFmt2
set_option linter.unusedVariables false
set_option linter.unusedSimpArgs false
set_option maxRecDepth 100000
namespace Go.Proofs.YtlinkeemccnfmaaGreatDoor
open Go.RowKit
theorem OwnT.chg {w w' : World} {B lo hi : Nat} {v : Value} {cs : List ByteArray} (h : OwnT w B v cs) (c : Chg lo hi w w') (hh : hi ≤ B) : OwnT w' B v cs :=
  ⟨ownsRow_of_block h.1 fun k hk => c.block k (h.1.lt k hk).2 (by have := (h.1.lt k hk).1; omega), h.2⟩
theorem OwnT.below {w w' : World} {B B' : Nat} {v : Value} {cs : List ByteArray} (h : OwnT w B v cs) (hb : Below B' w w') (hs : w.heap.size ≤ B') : OwnT w' B v cs :=
  ⟨ownsRow_of_block h.1 fun k hk => hb.block k (by have := (h.1.lt k hk).2; omega), h.2⟩
theorem OwnT.nil (w : World) (B : Nat) : OwnT w B (.slice none 0 0) [] := ⟨World.ownsRow_nil _ _ _ _, fun i hi => by simp at hi⟩
theorem OwnT.form1 {w : World} {B : Nat} {v : Value} {cs : List ByteArray} (h : OwnT w B v cs) (h0 : 0 < cs.length) : ∃ g cap n, n = cs.length ∧ v = .slice (some ⟨g, 0, none⟩) n cap := by
  obtain ⟨g, cap, rfl⟩ := (h.rwT h0 (Nat.le_refl _)).form
  exact ⟨g, cap, _, rfl, rfl⟩
theorem RwT.one {w : World} {lo hi g n cap : Nat} {cs : List ByteArray} (h : RwT w lo hi (.slice (some ⟨g, 0, none⟩) n cap) cs) : RwT w g (g + 1) (.slice (some ⟨g, 0, none⟩) n cap) cs := by
  obtain ⟨g', cap', cur, hv, hg, rest⟩ := h
  simp only [Value.slice.injEq, Option.some.injEq, Addr.mk.injEq, and_true] at hv
  obtain ⟨rfl, rfl, rfl⟩ := hv
  exact ⟨g, cap, cur, rfl, ⟨Nat.le_refl _, Nat.lt_succ_self _⟩, rest⟩
end Go.Proofs.YtlinkeemccnfmaaGreatDoor

set_option linter.unusedVariables false
set_option linter.unusedSimpArgs false
set_option maxRecDepth 100000
namespace Go.Proofs.YtlinkeemccnfmaaGreatDoor
open Go.RowKit
structure C2 (g b : Nat) (w w' : World) : Prop where
  os : w'.os = w.os
  tape : w'.tape = w.tape
  output : w'.output = w.output
  size : w.heap.size ≤ w'.heap.size
  block : ∀ k, k < w.heap.size → k ≠ g → k ≠ b → w'.heap[k]? = w.heap[k]?
theorem C2.chg {g b lo hi : Nat} {w w1 w2 : World} (h : C2 g b w w1) (c : Chg lo hi w1 w2) (hh : ∀ k, lo ≤ k → k < hi → k = g ∨ k = b ∨ w.heap.size ≤ k) : C2 g b w w2 :=
  ⟨c.os.trans h.os, c.tape.trans h.tape, c.output.trans h.output, Nat.le_trans h.size c.size, fun k hk h1 h2 => (c.block k (Nat.lt_of_lt_of_le hk h.size) (fun ⟨h3, h4⟩ => by rcases hh k h3 h4 with h | h | h <;> omega)).trans (h.block k hk h1 h2)⟩
theorem C2.of {g b B : Nat} {w w1 : World} (c : Below B w w1) (hB : w.heap.size ≤ B) : C2 g b w w1 := ⟨c.os, c.tape, c.output, c.size, fun k hk _ _ => c.block k (by omega)⟩
theorem RwT.sub {w : World} {lo hi g n cap : Nat} {cs : List ByteArray} (h : RwT w lo hi (.slice (some ⟨g, 0, none⟩) n cap) cs) : RwT w lo hi (.slice (some ⟨g, 0, none⟩) 0 cap) [] := by
  obtain ⟨g', cap', cur, hv, hg, hgg, hm, hs, hc⟩ := h
  simp only [Value.slice.injEq, Option.some.injEq, Addr.mk.injEq, and_true] at hv
  obtain ⟨rfl, rfl, rfl⟩ := hv
  exact ⟨g, cap, cur, rfl, hg, hgg, ⟨Nat.zero_le _, hm.2⟩, hs, fun i hi => by simp at hi⟩
end Go.Proofs.YtlinkeemccnfmaaGreatDoor

set_option linter.unusedVariables false
set_option linter.unusedSimpArgs false
set_option maxRecDepth 100000
namespace Go.Proofs.YtlinkeemccnfmaaGreatDoor
open Go.RowKit
theorem RwT.c2 {w w' : World} {lo hi g b k n cap : Nat} {cs : List ByteArray} (h : RwT w lo hi (.slice (some ⟨k, 0, none⟩) n cap) cs) (c : C2 g b w w') (h1 : k ≠ g) (h2 : k ≠ b) : RwT w' lo hi (.slice (some ⟨k, 0, none⟩) n cap) cs :=
  h.cong (c.block k h.lt.2.2 h1 h2) (Nat.le_refl _)
end Go.Proofs.YtlinkeemccnfmaaGreatDoor

set_option linter.unusedVariables false
set_option linter.unusedSimpArgs false
set_option maxRecDepth 100000
namespace Go.Proofs.YtlinkeemccnfmaaGreatDoor
open Go.RowKit
def tuK (cs : List ByteArray) : Nat → List ByteArray
  | 0 => cs
  | n + 1 => tuN (tuK cs n)
theorem tuK_len (cs : List ByteArray) : ∀ n, (tuK cs n).length = cs.length := by
  intro n
  induction n with
  | zero => rfl
  | succ n ih => rw [tuK, tuN_len, ih]
theorem EGV_tuK {cs : List ByteArray} (h : EGV cs = true) : ∀ n, EGV (tuK cs n) = true := by
  intro n
  induction n with
  | zero => exact h
  | succ n ih => rw [tuK]; exact EGV_tuN ih
theorem bodyPost_engB {fn : Func} {p u : Tmp} (h : fn.results = #[.cell p 28, .tmp u]) {a : Act} {w' : World} {g : Nat} {v ok : Value} {Q : Ending → World → Prop}
    (hd : a.defers = []) (hp : a.tmps.getD p undef = .pointer (some ⟨g, 0, none⟩)) (hu : a.tmps.getD u undef = ok) (hg : w'.heap[g]? = some (.cells #[v] 28 (0, 0)))
    (hq : Q (.returned (.tuple #[.agg #[v], ok])) w') : bodyPost Tryz.prog fn Q .ret a w' := by
  refine bodyPost_ret (v := .tuple #[.agg #[v], ok]) ?_ hd hq
  rw [results_cell_tmp h, hp, hu]
  simp [asAddr, Result.andThen, run_loadVar_row (P := Tryz.prog) w' g 28 28 #[v] (0, 0) _ hg Tryz.underlying28 rfl Tryz.infoEng]
theorem str_ne {a b : ByteArray} (h : ¬ a = b) : (a.toList == b.toList) = false := by
  rw [beq_eq_false_iff_ne]
  intro e
  rw [ByteArray.toList_eq, ByteArray.toList_eq] at e
  apply h
  cases a; cases b
  simp only [ByteArray.mk.injEq] at e ⊢
  exact Array.toList_inj.1 e
theorem deSameE (v u : Value) (cs ds : List ByteArray) (w : World) (hv : IsT w w.heap.size v cs) (hu : IsT w w.heap.size u ds) :
    Calls Tryz.prog 7 #[.agg #[v], .agg #[u]] w fun e w' => e = .returned (.bool (decide (cs = ds))) ∧ Below w.heap.size w w' := by
  have hv0 := hv
  have hu0 := hu
  obtain ⟨av, cv, rfl, hm, hc⟩ := hv
  obtain ⟨au, cu, rfl, hm', hc'⟩ := hu
  unfold maxLen at hm hm'
  have c1 := RetRow.e1 w (.cells #[.slice av cs.length cv] 28)
  have c2 := RetRow.e1 (w.alloc (.cells #[.slice av cs.length cv] 28)) (.cells #[.slice au ds.length cu] 28)
  have hs1 : (w.alloc (.cells #[.slice av cs.length cv] 28)).heap.size = w.heap.size + 1 := by simp
  have e0 := (c2.cell (p := ⟨w.heap.size, 0, none⟩) (show w.heap.size < _ by omega)).trans (eng_cell w (.slice av cs.length cv) 28)
  have e1 := eng_cell (w.alloc (.cells #[.slice av cs.length cv] 28)) (.slice au ds.length cu) 28
  rw [hs1] at e1
  have c3 := c1.trans (c2.mono (by omega))
  have l0 := World.block_lt_of_cell? _ _ e0
  have l1 := World.block_lt_of_cell? _ _ e1
  obtain ⟨wA, hwA⟩ : ∃ x, (w.alloc (.cells #[.slice av cs.length cv] 28)).alloc (.cells #[.slice au ds.length cu] 28) = x := ⟨_, rfl⟩
  rw [hwA] at e0 e1 c3 l0 l1
  have s3 := c3.size
  have HC := hid hc
  have HC' := hid hc'
  clear hc hc' c1 c2 hv0 hu0
  by_cases hl : cs.length = ds.length
  · have HL := hid hl
    have t1 : ((cs.length : Int) != (ds.length : Int)) = false := by rw [hl]; simp
    clear hl
    go_enter Tryz.func7, Tryz.ntmps7
    go_wp2
    go_loopw [5] (fun i wr => ∃ j : Nat, j ≤ cs.length ∧ i = .int .i64 j ∧ Hid (∀ k, k < j → tC cs k = tC ds k) ∧ Chg 0 0 wA wr) (fun i _ => cs.length - (intOf i).toNat)
    case atStart => exact ⟨0, Nat.zero_le _, rfl, fun k hk => by omega, Chg.refl _ _ _⟩
    case round =>
      obtain ⟨j, hj, rfl, HA, cr⟩ := hrel
      have cb := cr.below (B := wA.heap.size) (by omega) (Nat.le_refl _)
      have f0 := (cb.cell (p := ⟨w.heap.size, 0, none⟩) l0).trans e0
      have f1 := (cb.cell (p := ⟨w.heap.size + 1, 0, none⟩) l1).trans e1
      by_cases hlt : j < cs.length
      · obtain ⟨b, off, rfl, hb, g0, -⟩ := HC.out j hlt
        obtain ⟨b', off', rfl, hb', d0, -⟩ := HC'.out j (by rw [← HL.out]; exact hlt)
        have g1 := (c3.cell (p := ⟨b, off + j, none⟩) hb).trans g0
        have d1 := (c3.cell (p := ⟨b', off' + j, none⟩) hb').trans d0
        have g2 := (cb.cell (p := ⟨b, off + j, none⟩) (World.block_lt_of_cell? _ _ g1)).trans g1
        have d2 := (cb.cell (p := ⟨b', off' + j, none⟩) (World.block_lt_of_cell? _ _ d1)).trans d1
        have q0 : 0 ≤ (j : Int) := by omega
        have q1 : (j : Int) < cs.length := by omega
        have q2 : (j : Int) < ds.length := by have := HL.out; omega
        clear g0 d0 g1 d1
        by_cases he : tC cs j = tC ds j
        · have HE := hid he
          rw [← he] at d2
          clear he
          go_wp2_with fail
          go_quiet (fail)
          go_wp2
          go_roundw
          case rel =>
            refine ⟨j + 1, by omega, by go_num, fun k hk => ?_, cr.drewN _⟩
            by_cases e : k = j
            · subst e; exact HE.out
            · exact HA.out k (by omega)
          case measure => simp [intOf]; omega
        · have HN := hid (show decide (cs = ds) = false by simp; rintro rfl; exact he rfl)
          have hb3 : ((tC cs j).toList == (tC ds j).toList) = false := str_ne he
          clear he
          go_wp2_with fail
          go_quiet (fail)
          go_wp2
          go_ret
          exact ⟨by rw [HN.out]; rfl, c3.trans ((bel_drewN cb _).mono s3)⟩
      · obtain rfl : j = cs.length := by omega
        have HY := hid (show decide (cs = ds) = true by
          simp only [decide_eq_true_eq]
          apply List.ext_getElem HL.out
          intro i h1 h2
          have := HA.out i h1
          rw [tC_lt h1, tC_lt h2] at this
          exact this)
        go_wp2
        go_ret
        exact ⟨by rw [HY.out]; rfl, c3.trans (cb.mono s3)⟩
  · have HN := hid (show decide (cs = ds) = false by simp; rintro rfl; exact hl rfl)
    have t1 : ((cs.length : Int) != (ds.length : Int)) = true := by simp; omega
    clear hl
    go_enter Tryz.func7, Tryz.ntmps7
    go_wp2
    go_ret
    exact ⟨by rw [HN.out]; rfl, c3⟩
end Go.Proofs.YtlinkeemccnfmaaGreatDoor

set_option linter.unusedVariables false
set_option linter.unusedSimpArgs false
set_option maxRecDepth 100000
namespace Go.Proofs.YtlinkeemccnfmaaGreatDoor
open Go.RowKit
theorem IsT.setNS {w : World} {B g j : Nat} {v u : Value} {cs : List ByteArray} (h : IsT w B v cs) (hg : ∀ o s, w.cell? ⟨g, o, none⟩ ≠ some (.string s)) : IsT (w.setCell ⟨g, j, none⟩ u) B v cs := by
  obtain ⟨av, cap, rfl, hm, hc⟩ := h
  refine ⟨av, cap, rfl, hm, fun i hi => ?_⟩
  obtain ⟨b, off, rfl, hb, hcell, hs⟩ := hc i hi
  have hne : ¬ b = g := by rintro rfl; exact hg _ _ hcell
  exact ⟨b, off, rfl, hb, cell_other hne hcell, hs⟩
theorem eng_ns {w : World} {g n c : Nat} {a : Option Addr} {t : TypeId} (h : w.heap[g]? = some (.cells #[.slice a n c] t (0, 0))) : ∀ o s, w.cell? ⟨g, o, none⟩ ≠ some (.string s) := by
  intro o s e
  rw [row_cell h] at e
  rcases Nat.eq_zero_or_pos o with h2 | h2
  · subst h2; simp at e
  · rw [Array.getElem?_eq_none (by simp; omega)] at e; cases e
def plR (cs : List ByteArray) (i : Nat) : Int := sgN (tC (tuK cs i) 0)
end Go.Proofs.YtlinkeemccnfmaaGreatDoor

set_option linter.unusedVariables false
set_option linter.unusedSimpArgs false
namespace Go.Proofs.YtlinkeemccnfmaaGreatDoor
open Go.RowKit
theorem ch_pascal : ∀ m, m < 61 → ∀ k, k < 6 → chF (((m : Nat) + 1 : Nat) : Int) (k + 1) = chF ((m : Nat) : Int) (k + 1) + chF ((m : Nat) : Int) k := by decide +kernel
theorem ch_none : ∀ k, k < 7 → chF ((0 : Nat) : Int) (k + 1) = 0 := by decide
def dfN (a : Int) (c m i : Nat) : Int := if i ≤ c then a * chF (m : Int) (c - i) else 0
theorem vl_plC {a b : ByteArray} : ∃ q : Int, vl (plC a b) = vl a + vl b + q * ten a.size := by
  have hp := ten_pos a.size
  rw [plC, vl_shB (md_nonneg _ (by omega)) (md_lt _ (by omega))]
  refine ⟨-((vl a + vl b) / ten a.size), ?_⟩
  have h := Int.emod_add_mul_ediv (vl a + vl b) (ten a.size)
  have hm : md (vl a + vl b) (ten a.size) = (vl a + vl b) % ten a.size := rfl
  have e : -((vl a + vl b) / ten a.size) * ten a.size = -(ten a.size * ((vl a + vl b) / ten a.size)) := by rw [Int.neg_mul, Int.mul_comm]
  rw [hm, e]; omega
theorem vl_slC {s : ByteArray} {a : Int} : ∃ q : Int, vl (slC s a) = vl s + a + q * ten s.size := by
  have hp := ten_pos s.size
  rw [slC, vl_shB (md_nonneg _ (by omega)) (md_lt _ (by omega))]
  refine ⟨-((vl s + a) / ten s.size), ?_⟩
  have h := Int.emod_add_mul_ediv (vl s + a) (ten s.size)
  have hm : md (vl s + a) (ten s.size) = (vl s + a) % ten s.size := rfl
  have e : -((vl s + a) / ten s.size) * ten s.size = -(ten s.size * ((vl s + a) / ten s.size)) := by rw [Int.neg_mul, Int.mul_comm]
  rw [hm, e]; omega
theorem sg_vl (s : ByteArray) : ∃ q : Int, sgN s = vl s + q * ten s.size := by
  unfold sgN; split
  · exact ⟨-1, by omega⟩
  · exact ⟨0, by omega⟩
theorem dfN_step {a : Int} {c m i : Nat} (hm : m < 61) (hc : c ≤ 6) : dfN a c (m + 1) i = dfN a c m i + (if i < c then a * chF (m : Int) (c - (i + 1)) else 0) := by
  unfold dfN
  by_cases h : i < c
  · rw [if_pos (by omega), if_pos (by omega), if_pos h]
    obtain ⟨k, hk⟩ : ∃ k, c - i = k + 1 := ⟨c - i - 1, by omega⟩
    rw [hk, show c - (i + 1) = k by omega, ch_pascal m hm k (by omega), Int.mul_add]
  · rw [if_neg h]
    by_cases h2 : i ≤ c
    · rw [if_pos h2, if_pos h2, show c - i = 0 by omega]; simp [chF]
    · rw [if_neg h2, if_neg h2]; rfl
theorem dfN_next {a : Int} {c m i : Nat} : dfN a c m (i + 1) = (if i < c then a * chF (m : Int) (c - (i + 1)) else 0) := by
  unfold dfN
  by_cases h : i < c
  · rw [if_pos (by omega), if_pos h]
  · rw [if_neg (by omega), if_neg h]
theorem rs_before {cs : List ByteArray} {c a : Int} {tt : Nat} : ∀ n, n ≤ tt → rsC cs tt c a n = tuK cs n := by
  intro n
  induction n with
  | zero => intro _; rfl
  | succ n ih =>
    intro h
    rw [rsC, ih (by omega), tuK, rsS, if_neg (by omega)]
theorem tuK_size0 {cs : List ByteArray} (h : EGV cs = true) : ∀ n, (tC (tuK cs n) 0).size = (tC cs 0).size := by
  intro n
  induction n with
  | zero => rfl
  | succ n ih =>
    rw [tuK, tuN_at (by rw [tuK_len]; exact (EGV_iff.1 h).1.1), ← ih]
    split
    · exact plC_size _ _
    · rfl
theorem rs_size0 {cs : List ByteArray} {t a : Int} {c : Nat} (hE : EGV cs = true) (hc : c < cs.length) : ∀ n, (tC (rsC cs t c a n) 0).size = (tC cs 0).size := by
  intro n
  induction n with
  | zero => rfl
  | succ n ih =>
    have hl : (rsS (rsC cs t c a n) t c a n).length = cs.length := by rw [rsS_len, rsC_len]
    have h1 : (tC (rsS (rsC cs t c a n) t c a n) 0).size = (tC cs 0).size := by
      rw [rsS]; split
      · rw [tC_set (by rw [rsC_len]; simpa using hc)]
        split
        · rw [slC, shB_size]
          have h2 := EGV_iff.1 (EGV_rsC (t := t) (c := c) (a := a) hE (show (c : Int).toNat < cs.length by simpa using hc) n)
          rw [(h2.2 _ (by rw [rsC_len]; simpa using hc)).2]; exact ih
        · exact ih
      · exact ih
    rw [rsC, tuN_at (by omega), ← h1]
    split
    · exact plC_size _ _
    · rfl
theorem rs_sizeS {cs : List ByteArray} {t a : Int} {c : Nat} (hE : EGV cs = true) (hc : c < cs.length) (n : Nat) : (tC (rsS (rsC cs t c a n) t c a n) 0).size = (tC cs 0).size := by
  rw [rsS]; split
  · rw [tC_set (by rw [rsC_len]; simpa using hc)]
    split
    · rw [slC, shB_size]
      have h2 := EGV_iff.1 (EGV_rsC (t := t) (c := c) (a := a) hE (show (c : Int).toNat < cs.length by simpa using hc) n)
      rw [(h2.2 _ (by rw [rsC_len]; simpa using hc)).2]; exact rs_size0 hE hc n
    · exact rs_size0 hE hc n
  · exact rs_size0 hE hc n
theorem rs_after {cs : List ByteArray} {a : Int} {c tt : Nat} (hE : EGV cs = true) (hc : c < cs.length) (hc6 : c ≤ 6) :
    ∀ m, m ≤ 60 → ∀ i, i < cs.length → ∃ q : Int, vl (tC (rsS (rsC cs tt c a (tt + m)) tt c a (tt + m)) i) = vl (tC (tuK cs (tt + m)) i) + dfN a c m i + q * ten (tC cs 0).size := by
  have hsz : ∀ n i, i < cs.length → (tC (tuK cs n) i).size = (tC cs 0).size := fun n i hi => by
    rw [((EGV_iff.1 (EGV_tuK hE n)).2 i (by rw [tuK_len]; exact hi)).2, tuK_size0 hE]
  intro m
  induction m with
  | zero =>
    intro _ i hi
    rw [Nat.add_zero, rs_before tt (Nat.le_refl _), rsS, if_pos rfl, Int.toNat_natCast, tC_set (by rw [tuK_len]; exact hc)]
    by_cases e : c = i
    · subst e
      rw [if_pos rfl]
      obtain ⟨q, hq⟩ := vl_slC (s := tC (tuK cs tt) c) (a := a)
      refine ⟨q, ?_⟩
      rw [hq, hsz tt c hi, dfN, if_pos (Nat.le_refl _), Nat.sub_self]
      simp [chF]
    · rw [if_neg e]
      refine ⟨0, ?_⟩
      have : dfN a c 0 i = 0 := by
        unfold dfN
        by_cases h : i ≤ c
        · rw [if_pos h]
          obtain ⟨k, hk⟩ : ∃ k, c - i = k + 1 := ⟨c - i - 1, by omega⟩
          rw [hk, ch_none k (by omega), Int.mul_zero]
        · rw [if_neg h]
      rw [this]; omega
  | succ m ih =>
    intro hm i hi
    have ih' := ih (by omega)
    have hlX : (rsS (rsC cs tt c a (tt + m)) tt c a (tt + m)).length = cs.length := by rw [rsS_len, rsC_len]
    have hEX : EGV (rsS (rsC cs tt c a (tt + m)) tt c a (tt + m)) = true := EGV_rsS (EGV_rsC hE (by simpa using hc) _) (by rw [rsC_len]; simpa using hc)
    rw [show tt + (m + 1) = (tt + m) + 1 by omega]
    rw [rsS, if_neg (by omega), rsC, tuK]
    obtain ⟨X, hX⟩ : ∃ X, rsS (rsC cs tt c a (tt + m)) tt c a (tt + m) = X := ⟨_, rfl⟩
    rw [hX] at hlX hEX ih' ⊢
    obtain ⟨Y, hY⟩ : ∃ Y, tuK cs (tt + m) = Y := ⟨_, rfl⟩
    have hsY := hsz (tt + m)
    have hlY : Y.length = cs.length := by rw [← hY]; exact tuK_len cs _
    rw [hY] at ih' hsY ⊢
    rw [tuN_at (by omega), tuN_at (by omega), hlX, hlY]
    have hsX0 : (tC X i).size = (tC cs 0).size := by
      have h1 := ((EGV_iff.1 hEX).2 i (by omega)).2
      rw [h1, ← hX]; exact rs_sizeS hE hc _
    by_cases hl : i + 1 < cs.length
    · rw [if_pos hl, if_pos hl]
      obtain ⟨q1, h1⟩ := ih' i hi
      obtain ⟨q2, h2⟩ := ih' (i + 1) hl
      obtain ⟨q3, h3⟩ := vl_plC (a := tC X i) (b := tC X (i + 1))
      obtain ⟨q4, h4⟩ := vl_plC (a := tC Y i) (b := tC Y (i + 1))
      rw [h3, h4, h1, h2, hsX0, hsY i hi, dfN_step (by omega) hc6, dfN_next]
      refine ⟨q1 + q2 + q3 - q4, ?_⟩
      simp only [Int.add_mul, Int.sub_mul]
      omega
    · rw [if_neg hl, if_neg hl]
      obtain ⟨q1, h1⟩ := ih' i hi
      refine ⟨q1, ?_⟩
      rw [h1, dfN_step (by omega) hc6, if_neg (by omega)]; omega
theorem slip_law {cs : List ByteArray} {a t : Int} {c : Nat} (hE : EGV cs = true) (hc : c < cs.length) (hc6 : c ≤ 6) (ht : 0 ≤ t) {n : Nat} (hn : n < 60) :
    (∃ q : Int, rsR cs t c a n - plR cs n - effF c t a n = q * ten (tC cs 0).size) ∧ ((n : Int) < t → rsR cs t c a n = plR cs n) := by
  obtain ⟨tt, rfl⟩ : ∃ tt : Nat, t = tt := ⟨t.toNat, by omega⟩
  have h0 : 0 < cs.length := by omega
  by_cases h : (n : Int) < tt
  · have e : rsR cs tt c a n = plR cs n := by
      rw [rsR, plR, rs_before n (by omega), rsS, if_neg (by omega)]
    refine ⟨⟨0, ?_⟩, fun _ => e⟩
    rw [e, effF, if_pos h]; omega
  · refine ⟨?_, fun h2 => absurd h2 h⟩
    obtain ⟨m, rfl⟩ : ∃ m, n = tt + m := ⟨n - tt, by omega⟩
    obtain ⟨q1, h1⟩ := rs_after (a := a) (tt := tt) hE hc hc6 m (by omega) 0 h0
    have hX : EGV (rsS (rsC cs tt c a (tt + m)) tt c a (tt + m)) = true := EGV_rsS (EGV_rsC hE (by simpa using hc) _) (by rw [rsC_len]; simpa using hc)
    obtain ⟨q2, h2⟩ := sg_vl (tC (rsS (rsC cs tt c a (tt + m)) tt c a (tt + m)) 0)
    obtain ⟨q3, h3⟩ := sg_vl (tC (tuK cs (tt + m)) 0)
    have s2 : (tC (rsS (rsC cs tt c a (tt + m)) tt c a (tt + m)) 0).size = (tC cs 0).size := rs_sizeS hE hc _
    have s3 : (tC (tuK cs (tt + m)) 0).size = (tC cs 0).size := tuK_size0 hE _
    have e1 : effF c tt a ((tt + m : Nat) : Int) = dfN a c m 0 := by
      rw [effF, if_neg (by omega), dfN, if_pos (Nat.zero_le _), Nat.sub_zero, show ((tt + m : Nat) : Int) - (tt : Int) = (m : Int) by omega]
    rw [rsR, plR, h2, h3, s2, s3, h1, e1]
    refine ⟨q1 + q2 - q3, ?_⟩
    simp only [Int.add_mul, Int.sub_mul]
    omega
end Go.Proofs.YtlinkeemccnfmaaGreatDoor

