/- What is proved here: a region that draws its order and whose last operation is a store into a cell that its loads read: the condition on the world is asked behind every operation but that last one, which waits for all others. -/
import Derived.Test.YtkaanlldjkflaaaTk
set_option linter.unusedVariables false
namespace Go.Proofs.Ytkaanlldjkflaaa
open Go.RowKit

section
variable {P : Program} {ops : Array Oper} {Q : Exit → Act → World → Prop} {md : Region.Mode} {S : World → Prop} {m : Nat}
/-- Whatever order is picked, and S holds behind each operation that is carried out, but for number m. -/
def wpAnyL (P : Program) (md : Region.Mode) (ops : Array Oper) (Q : Exit → Act → World → Prop) (S : World → Prop) (m : Nat) : Nat → Array Bool → Act → World → Prop
  | 0, l, a, w => Region.ready md ops l = [] ∧ Q .normal a w
  | n + 1, l, a, w => (Region.ready md ops l = [] → Q .normal a w) ∧ ∀ i ∈ Region.ready md ops l, wpOp P ops Q i (fun a' w' => (i ≠ m → S w') ∧ wpAnyL P md ops Q S m n (l.setIfInBounds i true) a' w') a w
theorem wpAny_of_L : ∀ (n : Nat) (l : Array Bool) (a : Act) (w : World), wpAnyL P md ops Q S m n l a w → wpAny P md ops Q n l a w := by
  intro n
  induction n with
  | zero => intro l a w h; exact h
  | succ n ih => intro l a w h; exact ⟨h.1, fun i hi => wpOp_mono (fun a' w' h' => ih _ a' w' h'.2) (h.2 i hi)⟩
theorem takeL {i : Nat} {oi om : Oper} {d : Option Tmp} {v : Value} (hi : ops[i]? = some oi) (hd : oi.dst = d) (hom : ops[m]? = some om) (hwait : (om.after.any fun e => Region.binds md e && e.on == i) = true) (him : i ≠ m)
    (hs : Region.noSelect ops = true) (hQ : ∀ c a w, Q (.panic c) (a.put d v) w → Q (.panic c) a w) :
    ∀ (n : Nat) (l : Array Bool) (a : Act) (w : World), Region.free md ops l i = true → (Region.ready md ops l).contains i = true → YieldsIf P ops S oi v a → S w →
      wpAnyL P md ops Q S m n (l.setIfInBounds i true) (a.put d v) w → wpAnyL P md ops Q S m (n + 1) l a w := by
  subst hd
  obtain ⟨ew, hew, hewb⟩ := Array.any_eq_true'.1 hwait
  simp only [Bool.and_eq_true, beq_iff_eq] at hewb
  have hsel := Region.noSelect_spec hs
  have key : ∀ (n : Nat) (l : Array Bool) (a : Act) (w : World),
      (∀ j oj, ops[j]? = some oj → j ≠ i → l.getD j true = false → (∀ e ∈ oj.after, Region.binds md e = true → e.on ≠ i) → oi.apart ops oj = true) →
      i ∈ Region.ready md ops l → YieldsIf P ops S oi v a → S w →
      wpAnyL P md ops Q S m n (l.setIfInBounds i true) (a.put oi.dst v) w → wpAnyL P md ops Q S m (n + 1) l a w := by
    intro n
    induction n with
    | zero =>
      intro l a w _ hr hy hS H
      refine ⟨fun h => (by rw [h] at hr; cases hr), fun j hj => ?_⟩
      rcases Nat.decEq j i with hji | hji
      · have h2 := ready_mono hj hji
        rw [H.1] at h2; cases h2
      · subst hji; exact hy.wpOp hi hS ⟨fun _ => hS, H⟩
    | succ n ih =>
      intro l a w hap hr hy hS H
      refine ⟨fun h => (by rw [h] at hr; cases hr), fun j hj => ?_⟩
      rcases Nat.decEq j i with hji | hji
      · obtain ⟨hju, oj, hoj, hall⟩ := mem_ready.1 hj
        have hun := (mem_ready.1 hr).1
        have hnot : ∀ e ∈ oj.after, Region.binds md e = true → e.on ≠ i := by
          intro e he hb heq
          have h1 := hall e he hb
          rw [heq] at h1
          rcases Nat.lt_or_ge i l.size with hl | hl
          · simp [hl] at hun h1; rw [hun] at h1; cases h1
          · simp [Array.getElem?_eq_none hl] at h1
        have hjm : j ≠ m := by
          rintro rfl
          rw [hom] at hoj
          cases hoj
          exact hnot ew hew hewb.1 hewb.2
        have h2 := wpOp_putIf hoj (hap j oj hoj hji hju hnot) (fun cs b => hsel i oi cs b hi) (fun cs b => hsel j oj cs b hoj) hQ hy (H.2 j (ready_mono hj hji))
        refine wpOp_mono (fun a' w' h3 => ⟨h3.2.1, ih (l.setIfInBounds j true) a' w' (fun k ok hk hki hku hno => hap k ok hk hki ?_ hno) (ready_mono hr (Ne.symm hji)) h3.1 (h3.2.1 hjm) ?_⟩) h2
        · rcases Nat.decEq j k with e | e
          · rw [getD_set_ne true e] at hku; exact hku
          · subst e; exact hju
        · rw [Array.setIfInBounds_comm _ _ hji]; exact h3.2.2
      · subst hji; exact hy.wpOp hi hS ⟨fun _ => hS, H⟩
  intro n l a w hf hr hy hS H
  exact key n l a w (Region.free_spec hi hf) (by simpa using hr) hy hS H
theorem readyL {i : Nat} {o : Oper} {n : Nat} {l : Array Bool} {a : Act} {w : World} (hr : Region.ready md ops l = [i]) (ho : ops[i]? = some o)
    (h : ∀ K' : Act → World → Prop, Shut (∀ a w, S w → (S w → wpAnyL P md ops Q S m n (l.setIfInBounds i true) a w) → K' a w) → if Region.wanted o (yielded ops a.tmps) = true then Oper.wp P o a w K' Q else K' (a.put o.dst undef) w) :
    wpAnyL P md ops Q S m (n + 1) l a w := by
  refine ⟨fun h0 => (by rw [hr] at h0; cases h0), fun j hj => ?_⟩
  rw [hr] at hj
  obtain rfl := List.mem_singleton.1 hj
  exact wpOp_step ho (fun K' hK => h K' (fun a w hS hW => hK a w ⟨fun _ => hS, hW hS⟩))
theorem lastL {o : Oper} {n : Nat} {l : Array Bool} {a : Act} {w : World} (hr : Region.ready md ops l = [m]) (ho : ops[m]? = some o)
    (h : ∀ K' : Act → World → Prop, Shut (∀ a w, wpAnyL P md ops Q S m n (l.setIfInBounds m true) a w → K' a w) → if Region.wanted o (yielded ops a.tmps) = true then Oper.wp P o a w K' Q else K' (a.put o.dst undef) w) :
    wpAnyL P md ops Q S m (n + 1) l a w := by
  refine ⟨fun h0 => (by rw [hr] at h0; cases h0), fun j hj => ?_⟩
  rw [hr] at hj
  obtain rfl := List.mem_singleton.1 hj
  exact wpOp_step ho (fun K' hK => h K' (fun a w hW => hK a w ⟨fun h => absurd rfl h, hW⟩))
theorem doneL {n : Nat} {l : Array Bool} {a : Act} {w : World} (hr : Region.ready md ops l = []) (h : Q .normal a w) : wpAnyL P md ops Q S m n l a w := by
  cases n with
  | zero => exact ⟨hr, h⟩
  | succ n => exact ⟨fun _ => h, by rw [hr]; simp⟩
theorem regionL {id : Nat} {a : Act} {w : World} (hm : P.follows .mixedOrders = true) (hS : S w.drew)
    (h : S w.drew → wpAnyL P .any ops Q S m ops.size (Array.replicate ops.size false) a w.drew) : (Code.region id ops true).wp P Q a w := wp_region_any hm (wpAny_of_L _ _ _ _ (h hS))
end
end Go.Proofs.Ytkaanlldjkflaaa
