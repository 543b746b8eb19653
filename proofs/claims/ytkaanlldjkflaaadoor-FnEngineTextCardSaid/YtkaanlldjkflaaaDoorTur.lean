/- What is proved here: copies of rows of strings, and a turn of an engine's columns (impl and spec). -/
import Derived.Test.YtkaanlldjkflaaaDoorVal
import Derived.Test.YtkaanlldjkflaaaDoorTk
set_option linter.unusedVariables false
set_option linter.unusedSimpArgs false
set_option maxRecDepth 100000
namespace Go.Proofs.YtkaanlldjkflaaaDoor
open Go.RowKit

theorem Tryd.infoStr : (Tryd.prog.info? 9).map (fun i => (i.zero, i.size, i.bytes)) = some (some (.string ⟨#[]⟩), 1, 16) := by kernel_rfl
/-- v is nil or a slice over a block of the call's own of strings. -/
def OwnT (w : World) (B : Nat) (v : Value) (cs : List ByteArray) : Prop := w.ownsRow B 9 1 v cs.length (cs.map Value.string) ∧ ∀ i, i < cs.length → (tC cs i).size ≤ maxLen
theorem map_str_at (cs : List ByteArray) (j : Nat) (h : j < cs.length) : (cs.map Value.string)[j]? = some (.string (tC cs j)) := by
  rw [List.getElem?_map, List.getElem?_eq_getElem h, tC_lt h]; rfl
theorem OwnT.empty (w : World) {B : Nat} {c : Array Value} (hB : B ≤ w.heap.size) (hc : c = #[]) : OwnT (w.alloc (.cells c 9)) B (.slice (some ⟨w.heap.size, 0, none⟩) 0 0) [] := by
  subst hc; exact ⟨World.ownsRow_made w #[] 0 hB (by unfold maxLen; omega) (by simp), fun i hi => by simp at hi⟩
theorem OwnT.rwT {w : World} {B hi : Nat} {v : Value} {cs : List ByteArray} (h : OwnT w B v cs) (h0 : 0 < cs.length) (hh : w.heap.size ≤ hi) : RwT w B hi v cs := by
  obtain ⟨ho, hs⟩ := h
  have hlt := ho.lt
  rcases ho.2 with ⟨rfl, hn⟩ | ⟨g, cap, cur, rfl, hbg, hgg, hnc, hcm, hcs, hct⟩
  · omega
  · refine ⟨g, cap, cur, rfl, ⟨hbg, by have := (hlt g rfl).2; omega⟩, hgg, ⟨hnc, hcm⟩, by omega, fun i hi => ⟨?_, hs i hi⟩⟩
    have e : (cs.map Value.string)[i]? = cur.toList[i]? := by rw [← hct, List.getElem?_take, if_pos (by omega)]
    rw [← Array.getElem?_toList, ← e, map_str_at _ _ hi]
theorem strs_oneCell (cs : List ByteArray) : ∀ u ∈ cs.map Value.string, u.oneCell' = true := by
  intro u hu
  obtain ⟨s, _, rfl⟩ := List.mem_map.1 hu
  rfl
theorem wpList_appT {ops : Array Oper} {rest : List Oper} {o : Oper} {a : Act} {Q : Exit → Act → World → Prop} {w : World} (hgd : o.guard = none) (s x : Operand) (T : TypeId)
    (ho : o.op = .call { callee := .builtin .append, args := #[s, x], argTypes := #[T, T] }) (hT : Tryd.prog.underlying T = some (.slice 9))
    (B : Nat) (v : Value) (hs : a.eval s = v) (hown : OwnT w B v []) (C : Nat) (u : Value) (cs : List ByteArray) (hu : IsT w C u cs) (h0 : 0 < cs.length) (hx : a.eval x = u)
    (hn : cs.length ≤ 1099511627776) (hbase : B ≤ w.heap.size)
    (h : ∀ v' w', OwnT w' B v' cs → Below B w w' → wpList Tryd.prog ops Q rest (a.put o.dst v') w') : wpList Tryd.prog ops Q (o :: rest) a w := by
  obtain ⟨ad, cap, rfl, hm, hc⟩ := hu
  obtain ⟨b0, off0, rfl, _, _, _⟩ := hc 0 h0
  obtain ⟨i0, hi, hz0, hz1, hz2⟩ := info_parts Tryd.infoStr
  refine wpList_append_own _ hgd s x T ho B 9 i0 _ 1 16 hT hi hz0 hz1 hz2 rfl (by omega) v _ _ hs hown.1 ⟨b0, off0, none⟩ cs.length cap (cs.map Value.string) hx (by simp) ?_ (strs_oneCell _) (by unfold maxLen; simp; omega) (by simp; omega) hbase ?_
  · intro j u hu
    have hj : j < cs.length := by
      rcases Nat.lt_or_ge j cs.length with h' | h'
      · exact h'
      · rw [List.getElem?_eq_none (by simpa using h')] at hu; cases hu
    obtain ⟨b, off, hb, _, hcell, _⟩ := hc j hj
    simp only [Option.some.injEq, Addr.mk.injEq, and_true] at hb
    obtain ⟨rfl, rfl⟩ := hb
    have e : (⟨b0, off0, none⟩ : Addr).add j = ⟨b0, off0 + j, none⟩ := by unfold Addr.add; split <;> simp_all
    rw [e, hcell, ← hu, map_str_at _ _ hj]
  · intro v' w' hown' hg _
    refine h v' w' ⟨by simpa using hown', fun i hi => by obtain ⟨_, _, _, _, _, hh⟩ := hc i hi; exact hh⟩ ⟨hg.os, hg.tape, hg.output, hg.size, fun k hk => hg.block k (by omega) (fun e => by have := (World.ownsRow.lt hown.1 k e.symm).1; omega)⟩
/-- What is left by a call that hands back strings. -/
def RetT' (w : World) (cs : List ByteArray) (e : Ending) (w' : World) : Prop := ∃ g cap, e = .returned (.slice (some ⟨g, 0, none⟩) cs.length cap) ∧ RwT w' w.heap.size w'.heap.size (.slice (some ⟨g, 0, none⟩) cs.length cap) cs ∧ Below w.heap.size w w'
/-- What is left by a call that hands back an engine. -/
def RetE' (w : World) (cs : List ByteArray) (e : Ending) (w' : World) : Prop := ∃ g cap, e = .returned (.agg #[.slice (some ⟨g, 0, none⟩) cs.length cap]) ∧ RwT w' w.heap.size w'.heap.size (.slice (some ⟨g, 0, none⟩) cs.length cap) cs ∧ Below w.heap.size w w'
theorem RwT.form {w : World} {lo hi : Nat} {v : Value} {cs : List ByteArray} (h : RwT w lo hi v cs) : ∃ g cap, v = .slice (some ⟨g, 0, none⟩) cs.length cap := by
  obtain ⟨g, cap, cur, rfl, _⟩ := h; exact ⟨g, cap, rfl⟩
/-- All blocks of w but g are as they were. -/
def Kp (g : Nat) (w w' : World) : Prop := (∀ k, k < w.heap.size → k ≠ g → w'.heap[k]? = w.heap[k]?) ∧ w.heap.size ≤ w'.heap.size
theorem Kp.refl (g : Nat) (w : World) : Kp g w w := ⟨fun _ _ _ => rfl, Nat.le_refl _⟩
theorem Kp.drew {g : Nat} {w w' : World} (h : Kp g w w') : Kp g w w'.drew := h
theorem Kp.below {g B : Nat} {w w' w'' : World} (h : Kp g w w') (hb : Below B w' w'') (hB : w.heap.size ≤ B) : Kp g w w'' :=
  ⟨fun k hk hg => (hb.block k (by omega)).trans (h.1 k hk hg), Nat.le_trans h.2 hb.size⟩
theorem Kp.set {g o : Nat} {v : Value} {w w' : World} (h : Kp g w w') : Kp g w (w'.setCell ⟨g, o, none⟩ v) :=
  ⟨fun k hk hg => (Below.heap_setCell w' ⟨g, o, none⟩ v k hg).trans (h.1 k hk hg), by have := h.2; simpa using this⟩
theorem Kp.cell {g b o : Nat} {u : Value} {w w' : World} (h : Kp g w w') (hc : w.cell? ⟨b, o, none⟩ = some u) (hb : b ≠ g) : w'.cell? ⟨b, o, none⟩ = some u :=
  (World.cell?_of_block (w := w) (a := ⟨b, o, none⟩) (h.1 b (World.block_lt_of_cell? _ _ hc) hb)).trans hc
end Go.Proofs.YtkaanlldjkflaaaDoor
