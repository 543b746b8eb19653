/- What is proved here: those statements of CtM that this claim needs. -/
import Derived.Lib.Join
import Derived.Lib.IndexLaws
import Derived.Lib.IndexBytes
import Derived.Test.YtlinkeemccnfmaaGreatDoorNmC
set_option linter.unusedVariables false
set_option linter.unusedSimpArgs false
namespace Go.Proofs.YtlinkeemccnfmaaGreatDoor
open Go.RowKit
def glue (p : List UInt8) : List (List UInt8) → List (List UInt8)
  | [] => [p]
  | h :: t => (p ++ h) :: t
def cuts : List UInt8 → List (List UInt8)
  | [] => [[]]
  | b :: l => if b = 59 then [] :: cuts l else glue [b] (cuts l)
theorem glue_ne (p : List UInt8) (L : List (List UInt8)) : glue p L ≠ [] := by cases L <;> simp [glue]
theorem cuts_ne (l : List UInt8) : cuts l ≠ [] := by
  cases l with
  | nil => simp [cuts]
  | cons b l => rw [cuts]; split; simp; exact glue_ne _ _
theorem cuts_no {l : List UInt8} (h : ∀ x ∈ l, x ≠ 59) : cuts l = [l] := by
  induction l with
  | nil => rfl
  | cons b l ih => rw [cuts, if_neg (h b (by simp)), ih fun x hx => h x (by simp [hx])]; rfl
theorem cuts_app {x : List UInt8} (h : ∀ y ∈ x, y ≠ 59) (l : List UInt8) : cuts (x ++ 59 :: l) = x :: cuts l := by
  induction x with
  | nil => rw [List.nil_append, cuts, if_pos rfl]
  | cons b x ih => rw [List.cons_append, cuts, if_neg (h b (by simp)), ih fun y hy => h y (by simp [hy])]; rfl
theorem join_cuts (l : List UInt8) : Lib.join (cuts l) [59] = l := by
  induction l with
  | nil => rfl
  | cons b l ih =>
    rw [cuts]
    obtain ⟨h, t, ht⟩ : ∃ h t, cuts l = h :: t := by
      cases hc : cuts l with
      | nil => exact absurd hc (cuts_ne l)
      | cons h t => exact ⟨h, t, rfl⟩
    rw [ht] at ih ⊢
    rw [Lib.join_cons] at ih
    split
    · rename_i e
      subst e
      rw [Lib.join_cons, Lib.joinTail, List.map_cons, List.flatten_cons]
      show [] ++ (([59] ++ h) ++ Lib.joinTail [59] t) = 59 :: l
      rw [← ih]; simp
    · rw [glue, Lib.join_cons, List.append_assoc, ih]; rfl
theorem cuts_join : ∀ (xs : List (List UInt8)), xs ≠ [] → (∀ x ∈ xs, ∀ y ∈ x, y ≠ 59) → cuts (Lib.join xs [59]) = xs
  | [], h, _ => absurd rfl h
  | [x], _, h => by rw [Lib.join_one]; exact cuts_no (h x (by simp))
  | x :: y :: r, _, h => by
    have ih := cuts_join (y :: r) (by simp) fun z hz => h z (by simp [hz])
    rw [Lib.join_cons] at ih ⊢
    rw [show x ++ Lib.joinTail [59] (y :: r) = x ++ 59 :: (y ++ Lib.joinTail [59] r) by simp [Lib.joinTail]]
    rw [cuts_app (h x (by simp)), ih]
def cB (s : ByteArray) : List ByteArray := (cuts s.data.toList).map fun l => ⟨l.toArray⟩
theorem cB_data (s : ByteArray) : (cB s).map (·.data.toList) = cuts s.data.toList := by
  rw [cB, List.map_map]
  conv => rhs; rw [← List.map_id (cuts s.data.toList)]
  apply List.map_congr_left
  intro l _
  rfl
theorem data_inj : ∀ {L M : List ByteArray}, L.map (·.data.toList) = M.map (·.data.toList) → L = M
  | [], [], _ => rfl
  | [], _ :: _, h => by cases h
  | _ :: _, [], h => by cases h
  | a :: L, b :: M, h => by
    rw [List.map_cons, List.map_cons, List.cons.injEq] at h
    rw [by_data h.1, data_inj h.2]
theorem cuts_sizes : ∀ (l : List UInt8), (cuts l).length ≤ l.length + 1 ∧ ∀ x ∈ cuts l, x.length ≤ l.length
  | [] => ⟨Nat.le_refl _, fun x hx => by simp [cuts] at hx; subst hx; simp⟩
  | b :: l => by
    obtain ⟨i1, i2⟩ := cuts_sizes l
    rw [cuts]
    split
    · refine ⟨by simp; omega, fun x hx => ?_⟩
      rcases List.mem_cons.1 hx with rfl | hx
      · simp
      · have := i2 x hx; simp; omega
    · cases hc : cuts l with
      | nil => exact absurd hc (cuts_ne l)
      | cons h t =>
        rw [hc] at i1 i2
        refine ⟨by simp [glue] at *; omega, fun x hx => ?_⟩
        rcases List.mem_cons.1 hx with rfl | hx
        · have := i2 h (by simp); simp; omega
        · have := i2 x (by simp [hx]); simp; omega
theorem cB_len (s : ByteArray) : 1 ≤ (cB s).length ∧ (cB s).length ≤ s.size + 1 := by
  have := (cuts_sizes s.data.toList).1
  rw [dt_len] at this
  have hne := List.length_pos_iff.2 (cuts_ne s.data.toList)
  rw [cB, List.length_map]
  omega
theorem cB_size (s : ByteArray) {x : ByteArray} (h : x ∈ cB s) : x.size ≤ s.size := by
  obtain ⟨l, hl, e⟩ := List.mem_map.1 h
  rw [← e]
  have := (cuts_sizes s.data.toList).2 l hl
  rw [dt_len] at this
  exact this
theorem cuts_none {l : List UInt8} (h : Lib.indexByte l 59 = -1) : cuts l = [l] :=
  cuts_no fun x hx => by
    obtain ⟨i, hi, e⟩ := List.getElem_of_mem hx
    have := Lib.indexByte_none h i
    rw [List.getElem?_eq_getElem hi, e] at this
    intro e2; rw [e2] at this; exact this rfl
theorem ix_split {l : List UInt8} {c : UInt8} {o : Nat} (h : Lib.indexByte l c = o) : o < l.length ∧ l = l.take o ++ c :: l.drop (o + 1) := by
  obtain ⟨h1, _⟩ := Lib.indexByte_some h
  obtain ⟨ho, he⟩ := List.getElem?_eq_some_iff.1 h1
  refine ⟨ho, ?_⟩
  conv => lhs; rw [← List.take_append_drop o l, List.drop_eq_getElem_cons ho, he]
theorem ix_take {l : List UInt8} {c : UInt8} {o : Nat} (h : Lib.indexByte l c = o) : ∀ x ∈ l.take o, x ≠ c := by
  intro x hx e
  obtain ⟨i, hi, hx2⟩ := List.getElem_of_mem hx
  rw [List.length_take] at hi
  have := (Lib.indexByte_some h).2 i (by omega)
  rw [List.getElem_take] at hx2
  rw [List.getElem?_eq_getElem (by omega), hx2, e] at this
  exact this rfl
theorem cuts_some {l : List UInt8} {o : Nat} (h : Lib.indexByte l 59 = o) : cuts l = l.take o :: cuts (l.drop (o + 1)) := by
  conv => lhs; rw [(ix_split h).2]
  exact cuts_app (ix_take h) _
end Go.Proofs.YtlinkeemccnfmaaGreatDoor
