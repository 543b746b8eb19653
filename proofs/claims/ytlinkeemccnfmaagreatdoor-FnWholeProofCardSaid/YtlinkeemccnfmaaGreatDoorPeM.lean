/- What is proved here: those statements of PeM that this claim needs. -/
import Derived.Lib.IndexMore
import Derived.Test.YtlinkeemccnfmaaGreatDoorCtM
import Derived.Test.YtlinkeemccnfmaaGreatDoorFmt3
set_option linter.unusedVariables false
set_option linter.unusedSimpArgs false
namespace Go.Proofs.YtlinkeemccnfmaaGreatDoor
open Go.RowKit
theorem cut_no {l : List UInt8} {c : UInt8} (h : Lib.indexByte l c < 0) : Lib.cut l [c] = (l, [], false) := by
  rw [Lib.cut, Lib.index_one, if_neg (by omega)]
theorem cut_at {l : List UInt8} {c : UInt8} {o : Nat} (h : Lib.indexByte l c = o) : Lib.cut l [c] = (l.take o, l.drop (o + 1), true) := by
  rw [Lib.cut, Lib.index_one, if_pos (by omega), h]
  simp
def com3 (a b c : Option Int) : Option (Int × Int × Int) := match a, b, c with | some a, some b, some c => some (a, b, c) | _, _, _ => none
theorem com3_some {a b c : Option Int} {t : Int × Int × Int} (h : com3 a b c = some t) : a = some t.1 ∧ b = some t.2.1 ∧ c = some t.2.2 := by
  unfold com3 at h
  cases a <;> cases b <;> cases c <;> simp at h
  subst h; exact ⟨rfl, rfl, rfl⟩
theorem com3_1 (b c : Option Int) : com3 none b c = none := rfl
theorem com3_2 (a c : Option Int) : com3 a none c = none := by cases a <;> rfl
theorem com3_3 (a b : Option Int) : com3 a b none = none := by cases a <;> cases b <;> rfl
def pE (l : List UInt8) : Option (Int × Int × Int) := com3 (pN (Lib.cut l [58]).1) (pN (Lib.cut (Lib.cut l [58]).2.1 [62]).1) (pN (Lib.cut (Lib.cut l [58]).2.1 [62]).2.1)
theorem ix_iff {l : List UInt8} {c : UInt8} {o : Nat} (h1 : l[o]? = some c) (h2 : ∀ k, k < o → l[k]? ≠ some c) : Lib.indexByte l c = o := by
  have hg := Lib.indexByte_ge l c
  by_cases h : Lib.indexByte l c = -1
  · exact absurd h1 (Lib.indexByte_none h o)
  · obtain ⟨q, hq⟩ : ∃ q : Nat, Lib.indexByte l c = q := ⟨(Lib.indexByte l c).toNat, by omega⟩
    obtain ⟨g1, g2⟩ := Lib.indexByte_some hq
    rcases Nat.lt_trichotomy q o with e | e | e
    · exact absurd g1 (h2 q e)
    · rw [hq, e]
    · exact absurd h1 (g2 o e)
theorem pE_no1 {l : List UInt8} (h : Lib.indexByte l 58 < 0) : pE l = none := by
  unfold pE; rw [cut_no h, cut_no (l := []) (by decide), pN_nil, com3_3]
theorem pE_text {l : List UInt8} {t : Int × Int × Int} (h : pE l = some t) : l = Lib.itoa t.1 ++ 58 :: (Lib.itoa t.2.1 ++ 62 :: Lib.itoa t.2.2) := by
  obtain ⟨h1, h2, h3⟩ := com3_some h
  by_cases ha : Lib.indexByte l 58 < 0
  · rw [pE_no1 ha] at h; cases h
  · obtain ⟨a, ha⟩ : ∃ q : Nat, Lib.indexByte l 58 = q := ⟨(Lib.indexByte l 58).toNat, by omega⟩
    rw [cut_at ha] at h1 h2 h3
    by_cases hb : Lib.indexByte (l.drop (a + 1)) 62 < 0
    · rw [cut_no hb, pN_nil] at h3; cases h3
    · obtain ⟨b, hb⟩ : ∃ q : Nat, Lib.indexByte (l.drop (a + 1)) 62 = q := ⟨(Lib.indexByte (l.drop (a + 1)) 62).toNat, by omega⟩
      rw [cut_at hb] at h2 h3
      conv => lhs; rw [(ix_split ha).2, (ix_split hb).2]
      rw [pN_text h1, pN_text h2, pN_text h3]
def pL : List ByteArray → Option (List Int)
  | [] => some []
  | s :: r => match pE s.data.toList, pL r with | some t, some L => some (t.1 :: t.2.1 :: t.2.2 :: L) | _, _ => none
theorem pL_snoc : ∀ (q : List ByteArray) (s : ByteArray), pL (q ++ [s]) = match pL q, pE s.data.toList with | some L, some t => some (L ++ [t.1, t.2.1, t.2.2]) | _, _ => none
  | [], s => by
    rw [List.nil_append, pL, pL, pL]
    cases pE s.data.toList <;> rfl
  | x :: q, s => by
    rw [List.cons_append, pL, pL, pL_snoc q s]
    cases pE x.data.toList <;> cases pL q <;> cases pE s.data.toList <;> rfl
theorem pL_len : ∀ {q : List ByteArray} {L : List Int}, pL q = some L → L.length = q.length * 3
  | [], L, h => by rw [pL] at h; cases h; rfl
  | s :: q, L, h => by
    rw [pL] at h
    cases he : pE s.data.toList with
    | none => rw [he] at h; cases h
    | some t =>
      cases hq : pL q with
      | none => rw [he, hq] at h; cases h
      | some M =>
        rw [he, hq] at h
        cases h
        have := pL_len hq
        simp only [List.length_cons]; omega
theorem pL_no {q : List ByteArray} {s : ByteArray} (hs : s ∈ q) (h : pE s.data.toList = none) : pL q = none := by
  induction q with
  | nil => cases hs
  | cons x q ih =>
    rw [pL]
    rcases List.mem_cons.1 hs with rfl | hs
    · rw [h]
    · rw [ih hs]; cases pE x.data.toList <;> rfl
theorem pL_R : ∀ {q : List ByteArray} {L : List Int}, pL q = some L → ∀ x ∈ L, -100000000000000000 < x ∧ x < 100000000000000000
  | [], L, h => by rw [pL] at h; cases h; intro x hx; cases hx
  | s :: q, L, h => by
    rw [pL] at h
    cases he : pE s.data.toList with
    | none => rw [he] at h; cases h
    | some t =>
      cases hq : pL q with
      | none => rw [he, hq] at h; cases h
      | some M =>
        rw [he, hq] at h
        cases h
        obtain ⟨h1, h2, h3⟩ := com3_some he
        intro x hx
        rcases List.mem_cons.1 hx with rfl | hx
        · exact pN_bd h1
        · rcases List.mem_cons.1 hx with rfl | hx
          · exact pN_bd h2
          · rcases List.mem_cons.1 hx with rfl | hx
            · exact pN_bd h3
            · exact pL_R hq x hx
theorem pL_R64 {q : List ByteArray} {L : List Int} (h : pL q = some L) : R64 L := fun x hx => by have := pL_R h x hx; omega
theorem pL_at {q : List ByteArray} {L : List Int} (h : pL q = some L) : ∀ i (hi : i < q.length), pE (q[i]).data.toList = some (el L (i * 3), el L (i * 3 + 1), el L (i * 3 + 2)) := by
  induction q generalizing L with
  | nil => intro i hi; simp at hi
  | cons s q ih =>
    intro i hi
    rw [pL] at h
    cases he : pE s.data.toList with
    | none => rw [he] at h; cases h
    | some t =>
      cases hq : pL q with
      | none => rw [he, hq] at h; cases h
      | some M =>
        rw [he, hq] at h
        cases h
        cases i with
        | zero => exact he
        | succ i =>
          have e := ih hq i (by simpa using hi)
          rw [show (i + 1) * 3 = i * 3 + 1 + 1 + 1 by omega]
          exact e
def EP (s : ByteArray) : Option (List Int) := if s = ⟨#[45]⟩ then some [] else match pL (cB s) with | none => none | some L => if EV L then some L else none
theorem EP_dash : EP ⟨#[45]⟩ = some [] := if_pos rfl
theorem EP_none {s : ByteArray} (h : s ≠ ⟨#[45]⟩) (h2 : pL (cB s) = none) : EP s = none := by rw [EP, if_neg h, h2]
theorem EP_bad {s : ByteArray} {L : List Int} (h : s ≠ ⟨#[45]⟩) (h2 : pL (cB s) = some L) (h3 : EV L = false) : EP s = none := by rw [EP, if_neg h, h2]; simp only [h3]; rfl
theorem EP_yes {s : ByteArray} {L : List Int} (h : s ≠ ⟨#[45]⟩) (h2 : pL (cB s) = some L) (h3 : EV L = true) : EP s = some L := by rw [EP, if_neg h, h2]; simp only [h3]; rfl
theorem eB_data (zs : List Int) (i : Nat) : (eB zs i).data.toList = Lib.itoa (el zs (i * 3)) ++ 58 :: (Lib.itoa (el zs (i * 3 + 1)) ++ 62 :: Lib.itoa (el zs (i * 3 + 2))) := by
  rw [eB]
  simp only [app_data, IT_data, List.append_assoc]
  rfl
theorem pL_text {s : ByteArray} {L : List Int} (h : pL (cB s) = some L) : fB L (cB s).length = s := by
  have hn := (cB_len s).1
  apply by_data
  rw [← eBs_join L _ (by omega)]
  have e : (eBs L (cB s).length).map (·.data.toList) = cuts s.data.toList := by
    rw [← cB_data]
    apply List.ext_getElem
    · simp [eBs_len]
    · intro i h1 h2
      simp only [List.getElem_map, eBs, List.getElem_range]
      have hi : i < (cB s).length := by simpa using h2
      rw [eB_data]
      exact (pE_text (pL_at h i hi)).symm
  rw [e]
  exact join_cuts _
theorem EP_text {s : ByteArray} {L : List Int} (h : EP s = some L) : FT L = s := by
  rw [EP] at h
  split at h
  · rename_i e
    cases h
    rw [e]; exact FT_none rfl
  · cases hp : pL (cB s) with
    | none => rw [hp] at h; cases h
    | some M =>
      rw [hp] at h
      simp only at h
      split at h
      · rename_i hev
        cases h
        have hl := pL_len hp
        have hn := (cB_len s).1
        rw [FT_yes hl hev (by omega), pL_text hp]
      · cases h
theorem EP_len {s : ByteArray} {L : List Int} (h : EP s = some L) : L.length ≤ (s.size + 1) * 3 := by
  rw [EP] at h
  split at h
  · cases h; simp
  · cases hp : pL (cB s) with
    | none => rw [hp] at h; cases h
    | some M =>
      rw [hp] at h
      simp only at h
      split at h
      · cases h
        have hl := pL_len hp
        have hn := (cB_len s).2
        omega
      · cases h
end Go.Proofs.YtlinkeemccnfmaaGreatDoor
