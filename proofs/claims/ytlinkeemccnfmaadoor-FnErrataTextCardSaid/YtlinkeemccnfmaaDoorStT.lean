/- What is proved here: rows of strings: how they are read, and the append of one string. -/
import Derived.Test.YtlinkeemccnfmaaDoorErrS
set_option linter.unusedVariables false
set_option linter.unusedSimpArgs false
namespace Go.Proofs.YtlinkeemccnfmaaDoor
open Go.RowKit

/-- A string of a row, and how long it is. -/
def tC (cs : List ByteArray) (i : Nat) : ByteArray := cs.getD i ⟨#[]⟩
/-- The value v reads in w as a row of strings. -/
def IsT (w : World) (B : Nat) (v : Value) (cs : List ByteArray) : Prop :=
  ∃ a cap, v = .slice a cs.length cap ∧ (cs.length ≤ cap ∧ cap ≤ maxLen ∧ Hid (a = none → cap = 0)) ∧
   ∀ i, i < cs.length → ∃ b off, a = some ⟨b, off, none⟩ ∧ b < B ∧ w.cell? ⟨b, off + i, none⟩ = some (.string (tC cs i)) ∧ (tC cs i).size ≤ maxLen
theorem IsT.below {w w' : World} {B B' : Nat} {v : Value} {cs : List ByteArray} (h : IsT w B v cs) (hb : Below B' w w') (hB : B ≤ B') : IsT w' B v cs := by
  obtain ⟨a, cap, rfl, hm, hc⟩ := h
  refine ⟨a, cap, rfl, hm, fun i hi => ?_⟩
  obtain ⟨b, off, rfl, hbB, h1, h2⟩ := hc i hi
  exact ⟨b, off, rfl, hbB, (hb.cell (p := ⟨b, off + i, none⟩) (show b < B' by omega)).trans h1, h2⟩
theorem IsT.up {w : World} {B B' : Nat} {v : Value} {cs : List ByteArray} (h : IsT w B v cs) (hB : B ≤ B') : IsT w B' v cs := by
  obtain ⟨a, cap, rfl, hm, hc⟩ := h
  exact ⟨a, cap, rfl, hm, fun i hi => by obtain ⟨b, off, rfl, hbB, h1, h2⟩ := hc i hi; exact ⟨b, off, rfl, by omega, h1, h2⟩⟩
theorem tC_lt {cs : List ByteArray} {i : Nat} (h : i < cs.length) : tC cs i = cs[i] := by
  unfold tC; rw [List.getD_eq_getElem?_getD, List.getElem?_eq_getElem h]; rfl
/-- A row of strings that a call has made: cells of a block of its own. -/
def RwT (w : World) (lo hi : Nat) (v : Value) (cs : List ByteArray) : Prop :=
  ∃ g cap cur, v = .slice (some ⟨g, 0, none⟩) cs.length cap ∧ (lo ≤ g ∧ g < hi) ∧ w.heap[g]? = some (.cells cur 9 (0, 0)) ∧ (cs.length ≤ cap ∧ cap ≤ maxLen) ∧ cur.size = cap ∧ ∀ i, i < cs.length → cur[i]? = some (.string (tC cs i)) ∧ (tC cs i).size ≤ maxLen
theorem RwT.isT {w : World} {lo hi : Nat} {v : Value} {cs : List ByteArray} (h : RwT w lo hi v cs) : IsT w hi v cs := by
  obtain ⟨g, cap, cur, rfl, hg, hgg, hm, hs, hc⟩ := h
  exact ⟨_, cap, rfl, ⟨hm.1, hm.2, fun h => by cases h⟩, fun i hi => ⟨g, 0, rfl, hg.2, by rw [row_cell hgg, Nat.zero_add]; exact (hc i hi).1, (hc i hi).2⟩⟩
theorem RwT.below {w w' : World} {lo hi B : Nat} {v : Value} {cs : List ByteArray} (h : RwT w lo hi v cs) (hb : Below B w w') (hB : hi ≤ B) : RwT w' lo hi v cs := by
  obtain ⟨g, cap, cur, rfl, hg, hgg, hm, hs, hc⟩ := h
  exact ⟨g, cap, cur, rfl, hg, (hb.block g (by omega)).trans hgg, hm, hs, hc⟩
theorem Tryd.infoStr : (Tryd.prog.info? 9).map (fun i => (i.zero, i.size, i.bytes)) = some (some (.string ⟨#[]⟩), 1, 16) := by kernel_rfl
/-- v is nil or a slice over a block of the call's own of strings. -/
def OwnT (w : World) (B : Nat) (v : Value) (cs : List ByteArray) : Prop := w.ownsRow B 9 1 v cs.length (cs.map Value.string) ∧ ∀ i, i < cs.length → (tC cs i).size ≤ maxLen
theorem map_str_at (cs : List ByteArray) (j : Nat) (h : j < cs.length) : (cs.map Value.string)[j]? = some (.string (tC cs j)) := by
  rw [List.getElem?_map, List.getElem?_eq_getElem h, tC_lt h]; rfl
theorem OwnT.empty (w : World) {B : Nat} {c : Array Value} (hB : B ≤ w.heap.size) (hc : c = #[]) : OwnT (w.alloc (.cells c 9)) B (.slice (some ⟨w.heap.size, 0, none⟩) 0 0) [] := by
  subst hc; exact ⟨World.ownsRow_made w #[] 0 hB (by unfold maxLen; omega) (by simp), fun i hi => by simp at hi⟩
theorem OwnT.rwT {w : World} {B hi : Nat} {v : Value} {cs : List ByteArray} (h : OwnT w B v cs) (h0 : 0 < cs.length) (hh : w.heap.size ≤ hi) : RwT w B hi v cs := by
  obtain ⟨ho, hs⟩ := h
  have hlt := ho.lt
  rcases ho.2 with ⟨rfl, hn⟩ | ⟨g, cap, cur, rfl, hbg, hgg, hnc, hcm, hcs, hct⟩
  · omega
  · refine ⟨g, cap, cur, rfl, ⟨hbg, by have := (hlt g rfl).2; omega⟩, hgg, ⟨hnc, hcm⟩, by omega, fun i hi => ⟨?_, hs i hi⟩⟩
    have e : (cs.map Value.string)[i]? = cur.toList[i]? := by rw [← hct, List.getElem?_take, if_pos (by omega)]
    rw [← Array.getElem?_toList, ← e, map_str_at _ _ hi]
theorem RwT.form {w : World} {lo hi : Nat} {v : Value} {cs : List ByteArray} (h : RwT w lo hi v cs) : ∃ g cap, v = .slice (some ⟨g, 0, none⟩) cs.length cap := by
  obtain ⟨g, cap, cur, rfl, _⟩ := h; exact ⟨g, cap, rfl⟩
theorem tC_app_left {cs : List ByteArray} {s : ByteArray} {i : Nat} (h : i < cs.length) : tC (cs ++ [s]) i = tC cs i := by
  unfold tC; rw [List.getD_eq_getElem?_getD, List.getD_eq_getElem?_getD, List.getElem?_append_left h]
theorem tC_app_last {cs : List ByteArray} {s : ByteArray} : tC (cs ++ [s]) cs.length = s := by
  unfold tC; rw [List.getD_eq_getElem?_getD, List.getElem?_append_right (Nat.le_refl _), Nat.sub_self]; rfl
theorem OwnT.below {w w' : World} {B B' : Nat} {v : Value} {cs : List ByteArray} (h : OwnT w B v cs) (hb : Below B' w w') (hs : w.heap.size ≤ B') : OwnT w' B v cs :=
  ⟨ownsRow_of_block h.1 fun k hk => hb.block k (by have := (h.1.lt k hk).2; omega), h.2⟩
theorem wpList_appT1 {ops : Array Oper} {rest : List Oper} {o : Oper} {a : Act} {Q : Exit → Act → World → Prop} {w : World} {y : ByteArray} (hgd : o.guard = none) (s x : Operand) (T : TypeId)
    (ho : o.op = .call { callee := .builtin .append, args := #[s, x], argTypes := #[T, T] }) (hT : Tryd.prog.underlying T = some (.slice 9))
    (B : Nat) (v : Value) (cs : List ByteArray) (hs : a.eval s = v) (hx : a.eval x = .slice (some ⟨w.heap.size, 0, none⟩) 1 1) (hown : OwnT w B v cs) (hn : cs.length ≤ 1000000000) (hy : y.size ≤ maxLen) (hbase : B ≤ w.heap.size)
    (h : ∀ v' w', OwnT w' B v' (cs ++ [y]) → Below B w w' → wpList Tryd.prog ops Q rest (a.put o.dst v') w') :
    wpList Tryd.prog ops Q (o :: rest) a (w.alloc (.cells #[.string y] 9)) := by
  obtain ⟨i0, hi, hz0, hz1, hz2⟩ := info_parts Tryd.infoStr
  refine wpList_append_own _ hgd s x T ho B 9 i0 _ 1 16 hT hi hz0 hz1 hz2 rfl (by omega) v cs.length _ hs (World.ownsRow.alloc hown.1 _) ⟨w.heap.size, 0, none⟩ 1 1 [.string y] hx (by simp) ?_ (by simp [Value.oneCell']) (by unfold maxLen; omega) (by omega) (by simp; omega) ?_
  · intro j u hu
    have hadd : (⟨w.heap.size, 0, none⟩ : Addr).add j = ⟨w.heap.size, j, none⟩ := by unfold Addr.add; split <;> simp_all
    rw [hadd, World.cell?_alloc_at _ _ _ _ rfl]; simpa using hu
  · intro v' w' hown' hg _
    refine h v' w' ⟨by simpa using hown', fun i hi => ?_⟩ (((Below.refl _ _).alloc hbase _).grown hg (by simp; omega) (fun k hk => (World.ownsRow.lt hown.1 k hk).1))
    rw [List.length_append, List.length_singleton] at hi
    by_cases e : i < cs.length
    · rw [tC_app_left e]; exact hown.2 i e
    · obtain rfl : i = cs.length := by omega
      rw [tC_app_last]; exact hy
end Go.Proofs.YtlinkeemccnfmaaDoor
