/- What is proved here: slices of rows of ints, and the contract of impl's DiffTable. -/
import Derived.Test.YtkiebajggombiaaDif
import Derived.Test.YtkiebajggombiaaSlc
set_option linter.unusedVariables false
set_option linter.unusedSimpArgs false
namespace Go.Proofs.Ytkiebajggombiaa
open Go.RowKit

/-- The value v reads in w as n rows of ints, the i-th F i. -/
def IsR (w : World) (B : Nat) (v : Value) (n : Nat) (F : Nat → List Int) : Prop :=
  ∃ a cap, v = .slice a n cap ∧ (n ≤ cap ∧ cap ≤ maxLen) ∧ ∀ i, i < n → ∃ b off u, a = some ⟨b, off, none⟩ ∧ b < B ∧ w.cell? ⟨b, off + i, none⟩ = some u ∧ IsI w B u (F i)
theorem IsR.below {w w' : World} {B B' n : Nat} {v : Value} {F : Nat → List Int} (h : IsR w B v n F) (hb : Below B' w w') (hB : B ≤ B') : IsR w' B v n F := by
  obtain ⟨a, cap, rfl, hm, hc⟩ := h
  refine ⟨a, cap, rfl, hm, fun i hi => ?_⟩
  obtain ⟨b, off, u, rfl, hbB, hcell, hu⟩ := hc i hi
  exact ⟨b, off, u, rfl, hbB, (hb.cell (p := ⟨b, off + i, none⟩) (show b < B' by omega)).trans hcell, hu.below hb hB⟩
theorem IsR.up {w : World} {B B' n : Nat} {v : Value} {F : Nat → List Int} (h : IsR w B v n F) (hB : B ≤ B') : IsR w B' v n F := by
  obtain ⟨a, cap, rfl, hm, hc⟩ := h
  refine ⟨a, cap, rfl, hm, fun i hi => ?_⟩
  obtain ⟨b, off, u, rfl, hbB, hcell, hu⟩ := hc i hi
  exact ⟨b, off, u, rfl, by omega, hcell, hu.up hB⟩
theorem IsR.chg {w w' : World} {B lo hi n : Nat} {v : Value} {F : Nat → List Int} (h : IsR w B v n F) (hb : Chg lo hi w w') (hB : B ≤ lo ∨ hi ≤ lo) (hs : B ≤ w.heap.size) : IsR w' B v n F :=
  h.below (hb.below hB hs) (Nat.le_refl _)
/-- A row of ints stays as it was where a row of another type grew. -/
theorem Rw.grown {w w' : World} {lo hi base size n : Nat} {e : TypeId} {u v : Value} {xs : List Int} {vs : List Value} (h : Rw w lo hi u xs) (hv : w.ownsRow base e size v n vs) (he : e ≠ 3) (hg : w.grownBy w' v.ownBlock) : Rw w' lo hi u xs := by
  refine ⟨ownsRow_of_block h.1 fun k hk => hg.block k (h.1.lt k hk).2 fun e2 => ?_, h.2⟩
  rcases h.1.2 with ⟨rfl, _⟩ | ⟨g, cap, cur, rfl, hbg, hgg, rest⟩
  · simp [Value.ownBlock] at hk
  · rcases hv.2 with ⟨rfl, _⟩ | ⟨g', cap', cur', rfl, hbg', hgg', rest'⟩
    · simp [Value.ownBlock] at e2
    · simp only [Value.ownBlock, Option.some.injEq] at hk e2
      have hkg : g = g' := by omega
      subst hkg
      rw [hgg] at hgg'
      simp only [Option.some.injEq, Obj.cells.injEq] at hgg'
      exact he hgg'.2.1.symm
theorem Rw.alloc {w : World} {lo hi : Nat} {v : Value} {xs : List Int} (h : Rw w lo hi v xs) (o : Obj) : Rw (w.alloc o) lo hi v xs :=
  ⟨ownsRow_of_block h.1 fun k hk => Below.heap_alloc _ _ _ (h.1.lt k hk).2, h.2⟩
section
variable {P : Program}
/-- The append of one element, told with what has grown. -/
theorem wpList_appG {ops : Array Oper} {rest : List Oper} {o : Oper} {a : Act} {Q : Exit → Act → World → Prop} {w : World} (hgd : o.guard = none) (s x : Operand) (t : TypeId)
    (ho : o.op = .call { callee := .builtin .append, args := #[s, x], argTypes := #[t, t] })
    (base : Nat) (e : TypeId) (i : TypeInfo) (z : Value) (size bytes : Nat) (ht : P.underlying t = some (.slice e)) (hi : P.info? e = some i) (hz : i.zero = some z)
    (hsize : i.size = size) (hby : i.bytes = bytes) (hzs : z.cells.size = size) (hsz : 0 < size)
    (v : Value) (n : Nat) (xs : List Value) (hs : a.eval s = v) (hown : w.ownsRow base e size v n xs)
    (news : List Value) (hx : a.eval x = .slice (some ⟨w.heap.size, 0, none⟩) 1 1) (hl : news.length = size) (h1 : ∀ u ∈ news, u.oneCell' = true)
    (hn : n ≤ 1099511627776) (hb : bytes ≤ 64) (hbase : base ≤ w.heap.size)
    (h : ∀ v' w', w'.ownsRow base e size v' (n + 1) (xs ++ news) → (w.alloc (.cells news.toArray e)).grownBy w' v.ownBlock → Below base w w' → wpList P ops Q rest (a.put o.dst v') w') :
    wpList P ops Q (o :: rest) a (w.alloc (.cells news.toArray e)) := by
  refine wpList_append_own _ hgd s x t ho base e i z size bytes ht hi hz hsize hby hzs hsz v n xs hs (hown.alloc _) ⟨w.heap.size, 0, none⟩ 1 1 news hx (by omega) ?_ h1 ?_ ?_ ?_ ?_
  · intro j u hu
    have hadd : (⟨w.heap.size, 0, none⟩ : Addr).add j = ⟨w.heap.size, j, none⟩ := by unfold Addr.add; split <;> simp_all
    rw [hadd, World.cell?_alloc_at _ _ _ _ rfl, List.getElem?_toArray]; exact hu
  · unfold maxLen; omega
  · exact Nat.le_trans (Nat.mul_le_mul (show n + 1 ≤ 1099511627776 + 1 by omega) hb) (by omega)
  · simp; omega
  · intro v' w' hown' hg _
    refine h v' w' hown' hg ?_
    exact ((Below.refl _ _).alloc hbase _).grown hg (by simp; omega) (fun k hk => (hown.lt k hk).1)
end
/-- Differences of a short table stay small enough, however often they are taken. -/
theorem dN_bdn {xs : List Int} (h : TB xs = true) {n : Nat} (hn : n ≤ 30) : Bd 1100000000000000000 (dN xs n) := by
  refine (dN_bd (TB_Bd h) n).mono ?_
  have : (2 : Int) ^ n ≤ 2 ^ 30 := by
    have h1 : (2 : Nat) ^ n ≤ 2 ^ 30 := Nat.pow_le_pow_right (by omega) hn
    exact_mod_cast h1
  omega
/-- How many rows DiffTable has. -/
def dtN (xs : List Int) : Nat := if TB xs && decide (xs.length ≤ 30) then xs.length else 0
/-- What is left by a call that hands back rows of ints. -/
def RetR (w : World) (n : Nat) (F : Nat → List Int) (e : Ending) (w' : World) : Prop := ∃ v, e = .returned v ∧ IsR w' w'.heap.size v n F ∧ Below w.heap.size w w'
theorem isR_nil (w : World) (B : Nat) (F : Nat → List Int) : IsR w B (.slice none 0 0) 0 F := ⟨none, 0, rfl, ⟨Nat.zero_le _, Nat.zero_le _⟩, fun i hi => by omega⟩

end Go.Proofs.Ytkiebajggombiaa
