/- What is proved here: those statements of Sq2 that this claim needs. -/
import Derived.Test.YtlinkeemccnfmaaGreatDoorSq1
set_option linter.unusedVariables false
set_option linter.unusedSimpArgs false
set_option maxRecDepth 100000
namespace Go.Proofs.YtlinkeemccnfmaaGreatDoor
open Go.RowKit Go.Shelf
attribute [local go_sem] Oper.semAt_some
def rdPost (x y z : Nat) (I : List ByteArray → World → Prop) (Ix : Code → List ByteArray → World → Prop) (pre : List ByteArray) (W : World) : Exit → Act → World → Prop
  | .normal, _, W' => KeepsOthers W W' ∧ Kp3 x y z W W' ∧ I pre W'
  | .ret, _, W' => KeepsOthers W W' ∧ Ix .ret pre W'
  | _, _, _ => False
theorem rec_turn {W : World} {l D : Nat} {r r' : Loop} (hl : W.heap[l]? = some (.loop r)) (hD : W.heap[D]? = some (.deferred (some []))) (hne : D ≠ l) :
    (W.putObj l (.loop r')).heap[l]? = some (.loop r') ∧ (W.putObj l (.loop r')).heap[D]? = some (.deferred (some [])) :=
  ⟨World.putObj_heap_same (Array.getElem?_eq_some_iff.1 hl).1, (World.putObj_heap_other hne).trans hD⟩
theorem ko_keeps {W W' : World} (h : KeepsOthers W W') {l D : Nat} {r : Loop} (hl : W.heap[l]? = some (.loop r)) (hD : W.heap[D]? = some (.deferred (some []))) : W'.heap[l]? = some (.loop r) ∧ W'.heap[D]? = some (.deferred (some [])) :=
  ⟨h.same _ _ hl rfl, h.same _ _ hD rfl⟩
theorem range_split {g : Operand} {p : Tmp} {assign body : Code} {Q : Exit → Act → World → Prop} {a : Act} {w : World} {x y z : Nat} {s : ByteArray} (hs : s.size ≤ 16777216)
    (hg : a.eval g = .func (.func 81) #[] #[.pointer (some ⟨x, 0, none⟩), .pointer (some ⟨y, 0, none⟩), .pointer (some ⟨z, 0, none⟩)]) (hxy : x ≠ y) (hzy : z ≠ y)
    (hx : w.heap[x]? = some (.cells #[.string ⟨#[59]⟩] 9 (0, 0))) (hy : w.heap[y]? = some (.cells #[.string s] 9 (0, 0))) (hz : w.heap[z]? = some (.cells #[.int .i64 0] 3 (0, 0)))
    (I : List ByteArray → World → Prop) (Ix : Code → List ByteArray → World → Prop)
    (hIset : ∀ pre W t t', W.heap[y]? = some (.cells #[.string t] 9 (0, 0)) → I pre W → I pre (W.setCell ⟨y, 0, none⟩ (.string t')))
    (hIput : ∀ pre W r o', W.heap[w.heap.size + 1]? = some (.loop r) → I pre W → I pre (W.putObj (w.heap.size + 1) o'))
    (hIxput : ∀ c pre W r o', W.heap[w.heap.size + 1]? = some (.loop r) → Ix c pre W → Ix c pre (W.putObj (w.heap.size + 1) o'))
    (h0 : ∀ o o', I [] ((w.alloc o).alloc o')) (a₁ : ByteArray → Act)
    (hassign : ∀ (l : Nat) (q : ByteArray) (W : World) (K : Act → World → Prop), K (a₁ q) W →
      assign.wpIn (Fence.wide.inRound l) 1 Tryz.prog (Exit.then K (fun _ _ _ => False)) { tmps := a.tmps.setIfInBounds p (.string q), defers := [] } W)
    (hbody : ∀ (l : Nat) (pre : List ByteArray) (q : ByteArray) (W : World), I pre W → (pre ++ [q]) <+: cB s → (∃ t, W.heap[y]? = some (.cells #[.string t] 9 (0, 0))) →
      body.wpIn (Fence.wide.inRound l) 1 Tryz.prog (rdPost x y z I Ix (pre ++ [q]) W) (a₁ q) W)
    (hdone : ∀ (W : World), I (cB s) W → W.heap[w.heap.size]? = some (.deferred (some [])) → Q .normal { a with defers := { target := .collected w.heap.size, args := #[] } :: a.defers } W)
    (hstop : ∀ (c : Code) (pre : List ByteArray) (W : World), pre <+: cB s → Ix c pre W → W.heap[w.heap.size]? = some (.deferred (some [])) → c.wpIn Fence.wide 3 Tryz.prog Q { a with defers := { target := .collected w.heap.size, args := #[] } :: a.defers } W) :
    (Code.rangeFunc g #[p] assign body).wpIn Fence.wide 3 Tryz.prog Q a w := by
  refine wpIn_rangeFunc fun fn hfn => ?_
  obtain ⟨R, hR⟩ : ∃ R : LoopState → Option Code → Loop, R = fun st pe => { state := st, pending := pe, fn, tmps := a.tmps, params := #[p], assign, body, defers := w.heap.size } := ⟨_, rfl⟩
  have hxl := (Array.getElem?_eq_some_iff.1 hx).1
  have hyl := (Array.getElem?_eq_some_iff.1 hy).1
  have hzl := (Array.getElem?_eq_some_iff.1 hz).1
  have b1 : Below w.heap.size w ((w.alloc (.deferred (some []))).alloc (.loop (R .ready none))) := ((Below.refl _ w).alloc (Nat.le_refl _) _).alloc (by simp) _
  have l1 : ((w.alloc (.deferred (some []))).alloc (.loop (R .ready none))).heap[w.heap.size + 1]? = some (.loop (R .ready none)) := by
    have := World.alloc_heap_new (w.alloc (.deferred (some []))) (.loop (R .ready none)); rwa [World.size_alloc] at this
  have d1 : ((w.alloc (.deferred (some []))).alloc (.loop (R .ready none))).heap[w.heap.size]? = some (.deferred (some [])) :=
    (Below.heap_alloc _ _ _ (by simp)).trans (World.alloc_heap_new w _)
  have i1 := h0 (.deferred (some [])) (.loop (R .ready none))
  obtain ⟨W1, hW1⟩ : ∃ W1, (w.alloc (.deferred (some []))).alloc (.loop (R .ready none)) = W1 := ⟨_, rfl⟩
  rw [hW1] at b1 l1 d1 i1
  have hne : w.heap.size ≠ w.heap.size + 1 := by omega
  refine ⟨w.heap.size + 1, [{ target := .collected w.heap.size, args := #[] }], W1, { target := .fn (.func 81) #[.pointer (some ⟨x, 0, none⟩), .pointer (some ⟨y, 0, none⟩), .pointer (some ⟨z, 0, none⟩)], args := #[.func (.yield (w.heap.size + 1)) #[] #[]] }, W1, 81,
    #[.func (.yield (w.heap.size + 1)) #[] #[], .pointer (some ⟨x, 0, none⟩), .pointer (some ⟨y, 0, none⟩), .pointer (some ⟨z, 0, none⟩)], W1, ?_, ?_, fun _ _ => trivial, ?_, fun _ => by omega, ?_⟩
  · rw [← hW1, hR]; exact run_enterLoop_outer _ _ _ _ _
  · simp only [resolve, hg]
    simp [go_sem]
  · have eg : ∀ args w, (callFunc 81 args).run Tryz.prog w = .ok (.enter 81 args) w := enters_of Tryz.func81 (by kernel_rfl) rfl
    simp [invoke, go_sem, eg]
  · refine (split1_in 2 (by omega) (w.heap.size + 1) x y z s hs
      (fun pre W => I pre W ∧ (∃ t, W.heap[y]? = some (.cells #[.string t] 9 (0, 0))) ∧ W.heap[w.heap.size + 1]? = some (.loop (R .ready none)) ∧ W.heap[w.heap.size]? = some (.deferred (some [])))
      (fun pre W => ∃ c, Ix c pre W ∧ W.heap[w.heap.size + 1]? = some (.loop (R .done (some c))) ∧ W.heap[w.heap.size]? = some (.deferred (some [])))
      hxy hzy ?_ ?_ W1 ((b1.block x hxl).trans hx) ((b1.block y hyl).trans hy) ((b1.block z hzl).trans hz) ⟨i1, ⟨s, (b1.block y hyl).trans hy⟩, l1, d1⟩).mono ?_
    · rintro pre W t ⟨hi, ⟨t0, ht0⟩, hl, hd⟩
      exact ⟨hIset pre W t0 t ht0 hi, ⟨t, row_set ht0 0 (.string t)⟩, (Below.heap_setCell W ⟨y, 0, none⟩ (.string t) _ (show w.heap.size + 1 ≠ y by omega)).trans hl, (Below.heap_setCell W ⟨y, 0, none⟩ (.string t) _ (show w.heap.size ≠ y by omega)).trans hd⟩
    · rintro pre q W ⟨hi, ⟨t0, ht0⟩, hl, hd⟩ hpre
      have hyd : (Instr.yield (w.heap.size + 1) #[.string q]).run Tryz.prog W = .ok (.round (w.heap.size + 1) fn (a.tmps.setIfInBounds p (.string q)) assign body) W := by
        have h := run_yield (P := Tryz.prog) (args := #[.string q]) hl (by rw [hR]; rfl)
        rw [hR] at h
        simpa using h
      refine ⟨fn, _, assign, body, hyd, roundIn_of_wpIn hfn ?_⟩
      have hbg := run_beginRound (P := Tryz.prog) hl (by rw [hR])
      refine hassign _ q W _ ?_
      refine ⟨_, hbg, ?_⟩
      obtain ⟨l2, d2⟩ := rec_turn (r' := { R .ready none with state := .busy }) hl hd hne
      have i2 := hIput pre W _ (.loop { R .ready none with state := .busy }) hl hi
      have k2 : Kp3 x y z W (W.putObj (w.heap.size + 1) (.loop { R .ready none with state := .busy })) := Kp3.put (by omega) (by omega) (by omega)
      have y2 := (World.putObj_heap_other (w := W) (o := .loop { R .ready none with state := .busy }) (show y ≠ w.heap.size + 1 by omega)).trans ht0
      generalize W.putObj (w.heap.size + 1) (.loop { R .ready none with state := .busy }) = W2 at l2 d2 i2 k2 y2 ⊢
      refine wpIn_mono (hbody _ pre q W2 i2 hpre ⟨t0, y2⟩) ?_
      rintro e a3 W3 hp
      cases e with
      | normal =>
        obtain ⟨hko, hk3, hi3⟩ := hp
        obtain ⟨l3, d3⟩ := ko_keeps hko l2 d2
        have hend := run_endRound (P := Tryz.prog) none l3
        obtain ⟨l4, d4⟩ := rec_turn (r' := { R .ready none with state := .ready, pending := none }) l3 d3 hne
        refine ⟨_, _, hend, .inl ⟨rfl, ⟨hIput _ W3 _ _ l3 hi3, ⟨t0, ?_⟩, ?_, ?_⟩, (k2.trans hk3).trans (Kp3.put (by omega) (by omega) (by omega))⟩⟩
        · exact (World.putObj_heap_other (by omega)).trans (hk3.2.1.trans y2)
        · rw [hR] at l4 ⊢; exact l4
        · rw [hR] at d4 ⊢; exact d4
      | ret =>
        obtain ⟨hko, hi3⟩ := hp
        obtain ⟨l3, d3⟩ := ko_keeps hko l2 d2
        have hend := run_endRound (P := Tryz.prog) (some .ret) l3
        obtain ⟨l4, d4⟩ := rec_turn (r' := { R .ready none with state := .done, pending := some .ret }) l3 d3 hne
        refine ⟨_, _, hend, .inr ⟨rfl, .ret, hIxput _ _ W3 _ _ l3 hi3, ?_, ?_⟩⟩
        · rw [hR] at l4 ⊢; exact l4
        · rw [hR] at d4 ⊢; exact d4
      | exit id => exact hp.elim
      | goto t => exact hp.elim
      | panic ch => exact hp.elim
      | outgrown => exact hp.elim
    · rintro e W2 ⟨⟨v, rfl⟩, (⟨hi, -, hl, hd⟩ | ⟨pre, hpre, c, hi, hl, hd⟩)⟩
      · have hend := run_endLoop (P := Tryz.prog) hl (by rw [hR]; simp)
        refine ⟨_, _, hend, ?_⟩
        rw [hR]
        exact hdone _ (hIput _ W2 _ _ hl hi) ((World.putObj_heap_other hne).trans hd)
      · have hend := run_endLoop (P := Tryz.prog) hl (by rw [hR]; simp)
        refine ⟨_, _, hend, ?_⟩
        rw [hR]
        exact hstop c pre _ hpre (hIxput c pre W2 _ _ hl hi) ((World.putObj_heap_other hne).trans hd)
end Go.Proofs.YtlinkeemccnfmaaGreatDoor
