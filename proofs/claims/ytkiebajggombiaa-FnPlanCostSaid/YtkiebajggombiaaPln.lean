/- What is proved here: slices of segments: how they are read, and how they are owned; an owned one keeps each polynomial in a block of its own. -/
import Derived.Test.YtkiebajggombiaaPlnM
import Derived.Test.YtkiebajggombiaaDt
set_option linter.unusedVariables false
set_option linter.unusedSimpArgs false
namespace Go.Proofs.Ytkiebajggombiaa
open Go.RowKit

theorem Try.infoSeg3 : (Try.prog.info? 36).map (fun i => (i.zero, i.size, i.bytes)) = some (some (.agg #[.int .i64 0, .slice none 0 0]), 2, 32) := by kernel_rfl

/-- The value v reads in w as segments, whose counts and polynomials are those of L. -/
def IsS (w : World) (B : Nat) (v : Value) (L : List (Int × List Int)) : Prop :=
  ∃ a cap, v = .slice a L.length cap ∧ (L.length ≤ cap ∧ cap ≤ maxLen ∧ Hid (a = none → cap = 0)) ∧
   ∀ i, i < L.length → ∃ b off u, a = some ⟨b, off, none⟩ ∧ b < B ∧ w.cell? ⟨b, off + i * 2, none⟩ = some (.int .i64 (pC L i)) ∧ w.cell? ⟨b, off + i * 2 + 1, none⟩ = some u ∧ IsI w B u (pP L i) ∧ I64 (pC L i)
theorem IsS.below {w w' : World} {B B' : Nat} {v : Value} {L : List (Int × List Int)} (h : IsS w B v L) (hb : Below B' w w') (hB : B ≤ B') : IsS w' B v L := by
  obtain ⟨a, cap, rfl, hm, hc⟩ := h
  refine ⟨a, cap, rfl, hm, fun i hi => ?_⟩
  obtain ⟨b, off, u, rfl, hbB, h1, h2, h3, h4⟩ := hc i hi
  exact ⟨b, off, u, rfl, hbB, (hb.cell (p := ⟨b, off + i * 2, none⟩) (show b < B' by omega)).trans h1, (hb.cell (p := ⟨b, off + i * 2 + 1, none⟩) (show b < B' by omega)).trans h2, h3.below hb hB, h4⟩
theorem IsS.chg {w w' : World} {B lo hi : Nat} {v : Value} {L : List (Int × List Int)} (h : IsS w B v L) (hb : Chg lo hi w w') (hB : B ≤ lo ∨ hi ≤ lo) (hs : B ≤ w.heap.size) : IsS w' B v L :=
  h.below (hb.below hB hs) (Nat.le_refl _)
theorem IsS.up {w : World} {B B' : Nat} {v : Value} {L : List (Int × List Int)} (h : IsS w B v L) (hB : B ≤ B') : IsS w B' v L := by
  obtain ⟨a, cap, rfl, hm, hc⟩ := h
  exact ⟨a, cap, rfl, hm, fun i hi => by obtain ⟨b, off, u, rfl, hbB, h1, h2, h3, h4⟩ := hc i hi; exact ⟨b, off, u, rfl, by omega, h1, h2, h3.up hB, h4⟩⟩
theorem IsS.drewN {w : World} {B : Nat} {v : Value} {L : List (Int × List Int)} (h : IsS w B v L) (n : Nat) : IsS (w.drewN n) B v L := h
theorem IsS.nil (w : World) (B : Nat) : IsS w B (.slice none 0 0) [] := ⟨none, 0, rfl, ⟨Nat.zero_le _, Nat.zero_le _, fun _ => rfl⟩, fun i hi => by simp at hi⟩
theorem IsS.alloc {w : World} {B : Nat} {v : Value} {L : List (Int × List Int)} (h : IsS w B v L) (o : Obj) (hB : B ≤ w.heap.size) : IsS (w.alloc o) B v L :=
  h.below ((Below.refl w.heap.size w).alloc (Nat.le_refl _) o) hB

/-! ### rows that are owned -/
/-- The first n segments in the cells of a block: counts C, polynomials P, each in a block of its own. -/
def SgR (w : World) (lo hi n : Nat) (cur : Array Value) (C : Nat → Int) (P : Nat → List Int) : Prop :=
  ∃ U : Nat → Value, (∀ i, i < n → cur[i * 2]? = some (.int .i64 (C i)) ∧ cur[i * 2 + 1]? = some (U i) ∧ Rw w lo hi (U i) (P i) ∧ I64 (C i)) ∧
   ∀ i j, i < n → j < n → i ≠ j → ∀ k, (U i).ownBlock = some k → (U j).ownBlock ≠ some k
theorem SgR.zero (w : World) (lo hi : Nat) (cur : Array Value) (C : Nat → Int) (P : Nat → List Int) : SgR w lo hi 0 cur C P :=
  ⟨fun _ => undef, fun i hi => by omega, fun i j hi => by omega⟩
theorem SgR.below {w w' : World} {lo hi n B : Nat} {cur : Array Value} {C : Nat → Int} {P : Nat → List Int} (h : SgR w lo hi n cur C P) (hb : Below B w w') (hB : hi ≤ B) : SgR w' lo hi n cur C P := by
  obtain ⟨U, h1, h2⟩ := h
  exact ⟨U, fun i hi => ⟨(h1 i hi).1, (h1 i hi).2.1, (h1 i hi).2.2.1.below hb hB, (h1 i hi).2.2.2⟩, h2⟩
theorem SgR.keep {w w' : World} {lo hi lo' hi' n : Nat} {cur : Array Value} {C : Nat → Int} {P : Nat → List Int} (h : SgR w lo hi n cur C P) (hb : Chg lo' hi' w w') (hd : hi ≤ lo' ∨ hi' ≤ lo) : SgR w' lo hi n cur C P := by
  obtain ⟨U, h1, h2⟩ := h
  exact ⟨U, fun i hi => ⟨(h1 i hi).1, (h1 i hi).2.1, (h1 i hi).2.2.1.keep hb hd, (h1 i hi).2.2.2⟩, h2⟩
theorem SgR.up {w : World} {lo hi hi' n : Nat} {cur : Array Value} {C : Nat → Int} {P : Nat → List Int} (h : SgR w lo hi n cur C P) (hh : hi ≤ hi') : SgR w lo hi' n cur C P := by
  obtain ⟨U, h1, h2⟩ := h
  exact ⟨U, fun i hi => ⟨(h1 i hi).1, (h1 i hi).2.1, (h1 i hi).2.2.1.up hh, (h1 i hi).2.2.2⟩, h2⟩
theorem SgR.down {w : World} {lo lo' hi n : Nat} {cur : Array Value} {C : Nat → Int} {P : Nat → List Int} (h : SgR w lo hi n cur C P) (hh : lo' ≤ lo) : SgR w lo' hi n cur C P := by
  obtain ⟨U, h1, h2⟩ := h
  exact ⟨U, fun i hi => ⟨(h1 i hi).1, (h1 i hi).2.1, (h1 i hi).2.2.1.down hh, (h1 i hi).2.2.2⟩, h2⟩
theorem SgR.congr {w : World} {lo hi n : Nat} {cur : Array Value} {C C' : Nat → Int} {P P' : Nat → List Int} (h : SgR w lo hi n cur C P) (hC : ∀ i, i < n → C i = C' i ∧ P i = P' i) : SgR w lo hi n cur C' P' := by
  obtain ⟨U, h1, h2⟩ := h
  exact ⟨U, fun i hi => by rw [← (hC i hi).1, ← (hC i hi).2]; exact h1 i hi, h2⟩
theorem SgR.cells {w : World} {lo hi n : Nat} {cur cur' : Array Value} {C : Nat → Int} {P : Nat → List Int} (h : SgR w lo hi n cur C P) (hc : ∀ i, i < n * 2 → cur'[i]? = cur[i]?) : SgR w lo hi n cur' C P := by
  obtain ⟨U, h1, h2⟩ := h
  exact ⟨U, fun i hi => by rw [hc _ (by omega), hc _ (by omega)]; exact h1 i hi, h2⟩
theorem SgR.take {w : World} {lo hi n m : Nat} {cur : Array Value} {C : Nat → Int} {P : Nat → List Int} (h : SgR w lo hi n cur C P) (hm : m ≤ n) : SgR w lo hi m cur C P := by
  obtain ⟨U, h1, h2⟩ := h
  exact ⟨U, fun i hi => h1 i (by omega), fun i j hi hj => h2 i j (by omega) (by omega)⟩
/-- One more. -/
theorem SgR.snoc {w w' : World} {lo hi hi' n : Nat} {cur cur' : Array Value} {C : Nat → Int} {P : Nat → List Int} {u : Value} (h : SgR w' lo hi n cur C P) (hc : ∀ i, i < n * 2 → cur'[i]? = cur[i]?)
    (h0 : cur'[n * 2]? = some (.int .i64 (C n))) (h1 : cur'[n * 2 + 1]? = some u) (hu : Rw w' hi hi' u (P n)) (hi6 : I64 (C n)) (hl : lo ≤ hi) (hh : hi ≤ hi') : SgR w' lo hi' (n + 1) cur' C P := by
  obtain ⟨U, g1, g2⟩ := h
  refine ⟨fun i => if i = n then u else U i, fun i hi => ?_, fun i j hi hj hij k hk => ?_⟩
  · by_cases e : i = n
    · subst e; simp only [if_true]; exact ⟨h0, h1, hu.down hl, hi6⟩
    · simp only [if_neg e]
      rw [hc _ (by omega), hc _ (by omega)]
      have := g1 i (by omega)
      exact ⟨this.1, this.2.1, this.2.2.1.up hh, this.2.2.2⟩
  · by_cases e1 : i = n
    · by_cases e2 : j = n
      · omega
      · simp only [if_pos e1] at hk
        simp only [if_neg e2]
        intro hk2
        have a := (hu.1.lt k hk).1
        have b := (g1 j (by omega)).2.2.1.2.1 k hk2
        omega
    · simp only [if_neg e1] at hk
      by_cases e2 : j = n
      · simp only [if_pos e2]
        intro hk2
        have a := (hu.1.lt k hk2).1
        have b := (g1 i (by omega)).2.2.1.2.1 k hk
        omega
      · simp only [if_neg e2]
        exact g2 i j (by omega) (by omega) hij k hk
/-- A slice of segments that is owned. -/
def RwS (w : World) (lo hi : Nat) (v : Value) (L : List (Int × List Int)) : Prop :=
  (v = .slice none 0 0 ∧ L = []) ∨ ∃ g cap cur, v = .slice (some ⟨g, 0, none⟩) L.length cap ∧ (lo ≤ g ∧ g < hi) ∧ w.heap[g]? = some (.cells cur 36 (0, 0)) ∧ (L.length ≤ cap ∧ cap ≤ maxLen) ∧ cur.size = cap * 2 ∧ SgR w lo hi L.length cur (pC L) (pP L)
theorem RwS.nil (w : World) (lo hi : Nat) : RwS w lo hi (.slice none 0 0) [] := .inl ⟨rfl, rfl⟩
theorem RwS.below {w w' : World} {lo hi B : Nat} {v : Value} {L : List (Int × List Int)} (h : RwS w lo hi v L) (hb : Below B w w') (hB : hi ≤ B) : RwS w' lo hi v L := by
  rcases h with h | ⟨g, cap, cur, rfl, hg, hgg, hm, hs, hr⟩
  · exact .inl h
  · exact .inr ⟨g, cap, cur, rfl, hg, (hb.block g (by omega)).trans hgg, hm, hs, hr.below hb hB⟩
theorem RwS.keep {w w' : World} {lo hi lo' hi' : Nat} {v : Value} {L : List (Int × List Int)} (h : RwS w lo hi v L) (hb : Chg lo' hi' w w') (hd : hi ≤ lo' ∨ hi' ≤ lo) : RwS w' lo hi v L := by
  rcases h with h | ⟨g, cap, cur, rfl, hg, hgg, hm, hs, hr⟩
  · exact .inl h
  · exact .inr ⟨g, cap, cur, rfl, hg, (hb.block g (Array.getElem?_eq_some_iff.1 hgg).1 (by omega)).trans hgg, hm, hs, hr.keep hb hd⟩
theorem RwS.up {w : World} {lo hi hi' : Nat} {v : Value} {L : List (Int × List Int)} (h : RwS w lo hi v L) (hh : hi ≤ hi') : RwS w lo hi' v L := by
  rcases h with h | ⟨g, cap, cur, rfl, hg, hgg, hm, hs, hr⟩
  · exact .inl h
  · exact .inr ⟨g, cap, cur, rfl, by omega, hgg, hm, hs, hr.up hh⟩
theorem RwS.down {w : World} {lo lo' hi : Nat} {v : Value} {L : List (Int × List Int)} (h : RwS w lo hi v L) (hh : lo' ≤ lo) : RwS w lo' hi v L := by
  rcases h with h | ⟨g, cap, cur, rfl, hg, hgg, hm, hs, hr⟩
  · exact .inl h
  · exact .inr ⟨g, cap, cur, rfl, by omega, hgg, hm, hs, hr.down hh⟩
theorem RwS.isS {w : World} {lo hi : Nat} {v : Value} {L : List (Int × List Int)} (h : RwS w lo hi v L) : IsS w hi v L := by
  rcases h with ⟨rfl, rfl⟩ | ⟨g, cap, cur, rfl, hg, hgg, hm, hs, U, h1, h2⟩
  · exact IsS.nil w hi
  · refine ⟨_, cap, rfl, ⟨hm.1, hm.2, fun h => by cases h⟩, fun i hi => ?_⟩
    obtain ⟨c0, c1, c2, c3⟩ := h1 i hi
    exact ⟨g, 0, U i, rfl, hg.2, by rw [Nat.zero_add, row_cell hgg]; exact c0, by rw [Nat.zero_add, row_cell hgg]; exact c1, c2.isI, c3⟩
theorem RwS.isI {w : World} {lo hi : Nat} {v : Value} {L : List (Int × List Int)} (h : RwS w lo hi v L) : IsS w hi v L := h.isS
theorem RwS.len {w : World} {lo hi : Nat} {v : Value} {L : List (Int × List Int)} (h : RwS w lo hi v L) : ∃ a cap, v = .slice a L.length cap := by
  obtain ⟨a, cap, h, -⟩ := h.isS; exact ⟨a, cap, h⟩
/-- A row at one block, or nowhere. -/
theorem Rw.tight {w : World} {lo hi : Nat} {v : Value} {xs : List Int} (h : Rw w lo hi v xs) :
    ∃ g g', Rw w g g' v xs ∧ ((g' = g ∧ v.ownBlock = none) ∨ (g' = g + 1 ∧ v.ownBlock = some g ∧ lo ≤ g ∧ g < hi ∧ g < w.heap.size)) := by
  obtain ⟨ho, hk, hr⟩ := h
  rcases ho.2 with ⟨rfl, hn⟩ | ⟨g, cap, cur, rfl, hbg, hgg, rest⟩
  · exact ⟨0, 0, ⟨⟨ho.1, .inl ⟨rfl, hn⟩⟩, fun k hk => by simp [Value.ownBlock] at hk, hr⟩, .inl ⟨rfl, rfl⟩⟩
  · exact ⟨g, g + 1, ⟨⟨ho.1, .inr ⟨g, cap, cur, rfl, Nat.le_refl _, hgg, rest⟩⟩, fun k hk => by simp [Value.ownBlock] at hk; omega, hr⟩, .inr ⟨rfl, rfl, hbg, hk g rfl, (Array.getElem?_eq_some_iff.1 hgg).1⟩⟩
theorem Rw.keepB {w w' : World} {lo hi g g' : Nat} {v : Value} {xs : List Int} (h : Rw w lo hi v xs) (hc : Chg g g' w w') (hd : ∀ k, v.ownBlock = some k → ¬ (g ≤ k ∧ k < g')) : Rw w' lo hi v xs :=
  ⟨ownsRow_of_block h.1 fun k hk => hc.block k (h.1.lt k hk).2 (hd k hk), h.2⟩
/-- The own block of a row of ints is none of segments. -/
theorem Rw.ne {w : World} {lo hi g : Nat} {v : Value} {xs : List Int} {cur : Array Value} {e : TypeId} (h : Rw w lo hi v xs) (hg : w.heap[g]? = some (.cells cur e (0, 0))) (he : e ≠ 3) : v.ownBlock ≠ some g := by
  intro hk
  rcases h.1.2 with ⟨rfl, _⟩ | ⟨g', cap, cur', rfl, hbg, hgg, rest⟩
  · simp [Value.ownBlock] at hk
  · simp only [Value.ownBlock, Option.some.injEq] at hk
    subst hk
    rw [hgg] at hg
    simp only [Option.some.injEq, Obj.cells.injEq] at hg
    exact he hg.2.1.symm
/-- What a call leaves that hands back new segments and a bool. -/
def RetSB (w : World) (L : List (Int × List Int)) (b : Bool) (e : Ending) (w' : World) : Prop := ∃ v, e = .returned (.tuple #[v, .bool b]) ∧ RwS w' w.heap.size w'.heap.size v L ∧ Below w.heap.size w w'
/-- What a call leaves that hands back new segments. -/
def RetS (w : World) (L : List (Int × List Int)) (e : Ending) (w' : World) : Prop := ∃ v, e = .returned v ∧ RwS w' w.heap.size w'.heap.size v L ∧ Below w.heap.size w w'
end Go.Proofs.Ytkiebajggombiaa
