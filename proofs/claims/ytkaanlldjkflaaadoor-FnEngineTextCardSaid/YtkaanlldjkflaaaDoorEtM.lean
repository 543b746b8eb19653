/- What is proved here: plain facts on the text of an engine: columns joined by spaces, and a text cut at its spaces. No program in sight but for the columns' definition. -/
import Derived.Test.YtkaanlldjkflaaaDoorDrG
import Derived.Lib.Join
import Derived.Lib.SplitLaws
set_option linter.unusedVariables false
set_option linter.unusedSimpArgs false
namespace Go.Proofs.YtkaanlldjkflaaaDoor
open Go.RowKit

def glue (p : List UInt8) : List (List UInt8) → List (List UInt8)
  | [] => [p]
  | h :: t => (p ++ h) :: t
/-- A text cut at its spaces. -/
def cuts : List UInt8 → List (List UInt8)
  | [] => [[]]
  | b :: l => if b = 32 then [] :: cuts l else glue [b] (cuts l)
theorem glue_ne (p : List UInt8) (L : List (List UInt8)) : glue p L ≠ [] := by cases L <;> simp [glue]
theorem cuts_ne (l : List UInt8) : cuts l ≠ [] := by
  cases l with
  | nil => simp [cuts]
  | cons b l => rw [cuts]; split; simp; exact glue_ne _ _
theorem glue_glue (p q : List UInt8) {L : List (List UInt8)} (h : L ≠ []) : glue p (glue q L) = glue (p ++ q) L := by
  cases L with
  | nil => exact absurd rfl h
  | cons x t => simp [glue]
theorem glue_nil {L : List (List UInt8)} (h : L ≠ []) : glue [] L = L := by
  cases L with
  | nil => exact absurd rfl h
  | cons x t => simp [glue]
theorem cuts_no {l : List UInt8} (h : ∀ x ∈ l, x ≠ 32) : cuts l = [l] := by
  induction l with
  | nil => rfl
  | cons b l ih => rw [cuts, if_neg (h b (by simp)), ih fun x hx => h x (by simp [hx])]; rfl
theorem cuts_app {x : List UInt8} (h : ∀ y ∈ x, y ≠ 32) (l : List UInt8) : cuts (x ++ 32 :: l) = x :: cuts l := by
  induction x with
  | nil => rw [List.nil_append, cuts, if_pos rfl]
  | cons b x ih => rw [List.cons_append, cuts, if_neg (h b (by simp)), ih fun y hy => h y (by simp [hy])]; rfl
theorem join_cuts (l : List UInt8) : Lib.join (cuts l) [32] = l := by
  induction l with
  | nil => rfl
  | cons b l ih =>
    rw [cuts]
    obtain ⟨h, t, ht⟩ : ∃ h t, cuts l = h :: t := by
      cases hc : cuts l with
      | nil => exact absurd hc (cuts_ne l)
      | cons h t => exact ⟨h, t, rfl⟩
    rw [ht] at ih ⊢
    rw [Lib.join_cons] at ih
    split
    · rename_i e
      subst e
      rw [Lib.join_cons, Lib.joinTail, List.map_cons, List.flatten_cons]
      show [] ++ (([32] ++ h) ++ Lib.joinTail [32] t) = 32 :: l
      rw [← ih]; simp
    · rw [glue, Lib.join_cons, List.append_assoc, ih]; rfl
theorem cuts_join : ∀ (xs : List (List UInt8)), xs ≠ [] → (∀ x ∈ xs, ∀ y ∈ x, y ≠ 32) → cuts (Lib.join xs [32]) = xs
  | [], h, _ => absurd rfl h
  | [x], _, h => by rw [Lib.join_one]; exact cuts_no (h x (by simp))
  | x :: y :: r, _, h => by
    have ih := cuts_join (y :: r) (by simp) fun z hz => h z (by simp [hz])
    rw [Lib.join_cons] at ih ⊢
    rw [show x ++ Lib.joinTail [32] (y :: r) = x ++ 32 :: (y ++ Lib.joinTail [32] r) by simp [Lib.joinTail]]
    rw [cuts_app (h x (by simp)), ih]
theorem split_cons_eq (l : List UInt8) : Lib.split (32 :: l) [32] = [] :: Lib.split l [32] := by
  have hix : Lib.index (32 :: l) [32] = 0 := by rw [Lib.index]; simp [List.isPrefixOf]
  rw [Lib.split, Lib.count_cons_eq, Nat.add_comm, Lib.splitK, hix]
  simp [Lib.split]
theorem split_cons_ne (b : UInt8) (l : List UInt8) (h : b ≠ 32) : Lib.split (b :: l) [32] = glue [b] (Lib.split l [32]) := by
  have hp : ([32] : List UInt8).isPrefixOf (b :: l) = false := by simp [List.isPrefixOf, Ne.symm h]
  have hix : Lib.index (b :: l) [32] = if Lib.index l [32] == -1 then -1 else Lib.index l [32] + 1 := by rw [Lib.index, hp]; simp
  rw [Lib.split, Lib.split, Lib.count_cons_ne _ _ _ h]
  cases hk : Lib.count l [32] with
  | zero => rfl
  | succ k =>
    rw [Lib.splitK, Lib.splitK, hix]
    have hge := Lib.index_ge l [32]
    by_cases hm : Lib.index l [32] = -1
    · rw [hm]; rfl
    · obtain ⟨j, hj⟩ : ∃ j : Nat, Lib.index l [32] = j := ⟨(Lib.index l [32]).toNat, by omega⟩
      have e1 : (Lib.index l [32] == -1) = false := by simpa using hm
      rw [e1, hj]
      have e2 : (((j : Int) + 1) == -1) = false := by rw [beq_eq_false_iff_ne]; omega
      have e3 : ((j : Int) + 1).toNat = j + 1 := by omega
      simp [e2, e3, glue]
theorem split_cuts (l : List UInt8) : Lib.split l [32] = cuts l := by
  induction l with
  | nil => rfl
  | cons b l ih =>
    rw [cuts]
    split
    · rename_i e; subst e; rw [split_cons_eq, ih]
    · rename_i e; rw [split_cons_ne b l e, ih]
theorem by_data {a b : ByteArray} (h : a.data.toList = b.data.toList) : a = b := by
  cases a; cases b
  simp only [ByteArray.mk.injEq] at h ⊢
  exact Array.toList_inj.1 h
theorem app_data (a b : ByteArray) : (a ++ b).data.toList = a.data.toList ++ b.data.toList := by simp
theorem dt_len (a : ByteArray) : a.data.toList.length = a.size := Array.length_toList
/-- The pieces of a text. -/
def cB (s : ByteArray) : List ByteArray := (cuts s.data.toList).map fun l => ⟨l.toArray⟩
theorem cB_data (s : ByteArray) : (cB s).map (·.data.toList) = cuts s.data.toList := by
  rw [cB, List.map_map]
  conv => rhs; rw [← List.map_id (cuts s.data.toList)]
  apply List.map_congr_left
  intro l _
  rfl
theorem data_inj : ∀ {L M : List ByteArray}, L.map (·.data.toList) = M.map (·.data.toList) → L = M
  | [], [], _ => rfl
  | [], _ :: _, h => by cases h
  | _ :: _, [], h => by cases h
  | a :: L, b :: M, h => by
    rw [List.map_cons, List.map_cons, List.cons.injEq] at h
    rw [by_data h.1, data_inj h.2]
theorem splitB_cB (s : ByteArray) : Lib.splitB ⟨#[32]⟩ 0 (Lib.countB s ⟨#[32]⟩) s = cB s :=
  data_inj (by rw [Lib.splitB_data, cB_data]; exact split_cuts s.data.toList)
/-- The columns joined by spaces. -/
def JB (cs : List ByteArray) : ByteArray := ⟨(Lib.join (cs.map (·.data.toList)) [32]).toArray⟩
theorem JB_data (cs : List ByteArray) : (JB cs).data.toList = Lib.join (cs.map (·.data.toList)) [32] := rfl
theorem JB_cB (s : ByteArray) : JB (cB s) = s := by_data (by rw [JB_data, cB_data, join_cuts])
/-- The text of the first k columns. -/
def jB (cs : List ByteArray) : Nat → ByteArray
  | 0 => ⟨#[]⟩
  | k + 1 => (if k = 0 then jB cs k else jB cs k ++ ⟨#[32]⟩) ++ tC cs k
theorem join_snoc (xs : List (List UInt8)) (y sep : List UInt8) (h : xs ≠ []) : Lib.join (xs ++ [y]) sep = Lib.join xs sep ++ sep ++ y := by
  cases xs with
  | nil => exact absurd rfl h
  | cons x r =>
    rw [List.cons_append, Lib.join_cons, Lib.join_cons]
    simp [Lib.joinTail]
theorem jB_take (cs : List ByteArray) : ∀ k, k ≤ cs.length → k ≠ 0 → (jB cs k).data.toList = Lib.join ((cs.take k).map (·.data.toList)) [32]
  | 0, _, h => absurd rfl h
  | k + 1, hk, _ => by
    have ht : cs.take (k + 1) = cs.take k ++ [tC cs k] := by rw [List.take_add_one, List.getElem?_eq_getElem (by omega), tC_lt (by omega)]; rfl
    rw [jB, ht]
    by_cases h0 : k = 0
    · subst h0
      rw [if_pos rfl, app_data, List.take_zero, List.nil_append, List.map_singleton, Lib.join_one]
      rfl
    · rw [if_neg h0, app_data, app_data, jB_take cs k (by omega) h0, List.map_append, List.map_singleton]
      rw [join_snoc _ _ _ (by intro e; have := congrArg List.length e; rw [List.length_map, List.length_take, List.length_nil] at this; omega)]
theorem jB_all {cs : List ByteArray} (h : cs.length ≠ 0) : jB cs cs.length = JB cs := by_data (by rw [jB_take cs _ (Nat.le_refl _) h, List.take_length, JB_data])
theorem jB_size {cs : List ByteArray} (h : EGV cs = true) : ∀ k, k ≤ cs.length → (jB cs k).size ≤ 13 * k ∧ (0 < k → 0 < (jB cs k).size)
  | 0, _ => ⟨Nat.le_refl _, fun h => absurd h (by omega)⟩
  | k + 1, hk => by
    have e32 : (⟨#[32]⟩ : ByteArray).size = 1 := rfl
    have ih := jB_size h k (by omega)
    have hc := (CV_iff.1 (((EGV_iff.1 h).2 k (by omega)).1)).1
    rw [jB]
    split
    · rw [ByteArray.size_append]; omega
    · rw [ByteArray.size_append, ByteArray.size_append, e32]; omega
theorem JB_size {cs : List ByteArray} (h : EGV cs = true) : 0 < (JB cs).size ∧ (JB cs).size ≤ 91 := by
  have hl := (EGV_iff.1 h).1
  have hj := jB_size h cs.length (Nat.le_refl _)
  rw [jB_all (by omega)] at hj
  omega
theorem cv_no32 {s : ByteArray} (h : CV s = true) : ∀ y ∈ s.data.toList, y ≠ 32 := by
  intro y hy e
  subst e
  obtain ⟨i, hi, hy⟩ := List.getElem_of_mem hy
  have hi' : i < s.size := by rwa [dt_len] at hi
  have := (CV_iff.1 h).2 i hi'
  rw [bN_eq hi'] at this
  have e : s[i]'hi' = 32 := by rw [← hy]; rfl
  rw [e] at this
  have : ((32 : UInt8).toNat : Int) = 32 := rfl
  omega
theorem cB_JB {cs : List ByteArray} (h : EGV cs = true) : cB (JB cs) = cs := by
  have hl := (EGV_iff.1 h).1
  apply data_inj
  rw [cB_data, JB_data]
  refine cuts_join _ (by intro e; have := congrArg List.length e; rw [List.length_map, List.length_nil] at this; omega) fun x hx => ?_
  obtain ⟨s, hs, rfl⟩ := List.mem_map.1 hx
  obtain ⟨i, hi, rfl⟩ := List.getElem_of_mem hs
  have := ((EGV_iff.1 h).2 i hi).1
  rw [tC_lt hi] at this
  exact cv_no32 this
/-- The text of an engine. -/
def FE (cs : List ByteArray) : ByteArray := if EGV cs then JB cs else ⟨#[]⟩
theorem FE_yes {cs : List ByteArray} (h : EGV cs = true) : FE cs = JB cs := by rw [FE, if_pos h]
theorem FE_no {cs : List ByteArray} (h : EGV cs = false) : FE cs = ⟨#[]⟩ := by rw [FE, h]; rfl
/-- The engine of a text: none if it is not valid. -/
def PE (s : ByteArray) : List ByteArray := if EGV (cB s) then cB s else []
theorem FE_size (cs : List ByteArray) : (FE cs).size ≤ 91 := by
  cases h : EGV cs with
  | true => rw [FE_yes h]; exact (JB_size h).2
  | false => rw [FE_no h]; exact Nat.zero_le _
theorem cuts_sizes : ∀ (l : List UInt8), (cuts l).length ≤ l.length + 1 ∧ ∀ x ∈ cuts l, x.length ≤ l.length
  | [] => ⟨Nat.le_refl _, fun x hx => by simp [cuts] at hx; subst hx; simp⟩
  | b :: l => by
    obtain ⟨i1, i2⟩ := cuts_sizes l
    rw [cuts]
    split
    · refine ⟨by simp; omega, fun x hx => ?_⟩
      rcases List.mem_cons.1 hx with rfl | hx
      · simp
      · have := i2 x hx; simp; omega
    · cases hc : cuts l with
      | nil => exact absurd hc (cuts_ne l)
      | cons h t =>
        rw [hc] at i1 i2
        refine ⟨by simp [glue] at *; omega, fun x hx => ?_⟩
        rcases List.mem_cons.1 hx with rfl | hx
        · have := i2 h (by simp); simp; omega
        · have := i2 x (by simp [hx]); simp; omega
theorem cB_len (s : ByteArray) : 1 ≤ (cB s).length ∧ (cB s).length ≤ s.size + 1 := by
  have := (cuts_sizes s.data.toList).1
  rw [dt_len] at this
  have hne := List.length_pos_iff.2 (cuts_ne s.data.toList)
  rw [cB, List.length_map]
  omega
theorem cB_size (s : ByteArray) {i : Nat} (h : i < (cB s).length) : (tC (cB s) i).size ≤ s.size := by
  rw [tC_lt h]
  have hm : (cB s)[i] ∈ cB s := List.getElem_mem h
  obtain ⟨l, hl, e⟩ := List.mem_map.1 hm
  rw [← e]
  have := (cuts_sizes s.data.toList).2 l hl
  rw [dt_len] at this
  exact this
end Go.Proofs.YtkaanlldjkflaaaDoor
