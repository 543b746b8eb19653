/- What is proved here: contracts of the drawing of an engine to run, with a slip. -/
import Derived.Test.YtkaanlldjkflaaaDoorSlr
set_option linter.unusedVariables false
set_option linter.unusedSimpArgs false
set_option maxRecDepth 100000
namespace Go.Proofs.YtkaanlldjkflaaaDoor
open Go.RowKit

theorem Chg.trans2 {g b : Nat} {w w1 w2 : World} (h : Chg g (g + 1) w w1) (c : C2 g b w1 w2) (hb : w.heap.size ≤ b) : Chg g (g + 1) w w2 :=
  ⟨c.os.trans h.os, c.tape.trans h.tape, c.output.trans h.output, Nat.le_trans h.size c.size, fun k hk hn => (c.block k (Nat.lt_of_lt_of_le hk h.size) (by omega) (by omega)).trans (h.block k hk hn)⟩
/-- What a call leaves that draws an engine that is sometimes none. -/
def DrOpen (w : World) (B g L : Nat) (e : Ending) (w' : World) : Prop :=
  ∃ (ga cap : Nat) (cs : List ByteArray), e = .returned (.agg #[.slice (some ⟨ga, 0, none⟩) cs.length cap]) ∧ RwT w' ga (ga + 1) (.slice (some ⟨ga, 0, none⟩) cs.length cap) cs ∧ w.heap.size ≤ ga ∧ cs.length ≤ 8 ∧ Rd w' B g L ∧ Chg g (g + 1) w w'
theorem c_l3Open (w : World) (B g L : Nat) (hL : L ≤ 40000) (r : Rd w B g L) :
    Calls Tryd.prog 12 #[.pointer (some ⟨g, 0, none⟩)] w (DrOpen w B g (L + 1204)) := by
  have hgl := r.lt
  have hge := r.ge
  have b1 := RetRow.e1 w (.cells #[.slice none 0 0] 25)
  have g0 := eng_alloc w (.slice none 0 0) 25
  have r1 := r.below b1 hgl
  have cA : Chg g (g + 1) w (w.alloc (.cells #[.slice none 0 0] 25)) := (Chg.refl g (g + 1) w).bel b1 (Nat.le_refl _)
  obtain ⟨wA, hwA⟩ : ∃ x, w.alloc (.cells #[.slice none 0 0] 25) = x := ⟨_, rfl⟩
  rw [hwA] at g0 r1 cA
  obtain ⟨gP, hgP⟩ : ∃ x, w.heap.size = x := ⟨_, rfl⟩
  have hwP : w.heap.size ≤ gP := by omega
  have hPw : gP ≤ w.heap.size := by omega
  rw [hgP] at g0
  have hPl := (Array.getElem?_eq_some_iff.1 g0).1
  have HP := hid g0
  clear b1 g0 r
  go_enter Tryd.func12, Tryd.ntmps12
  go_wp2_with fail
  (try clear hwA)
  (try clear hgP)
  refine (c_l3Some _ B g L (by omega) r1).mono ?_
  clear r1
  rintro e w2 ⟨ga, ca, cs, rfl, ra, hga, ⟨ha1, ha8⟩, hasz, r, c⟩
  have s2 := c.size
  replace HP := hid ((c.block gP (by omega) (by omega)).trans HP.out)
  replace cA := cA.trans c
  clear c
  go_wp2_with fail
  refine (c_l3Bad _ B g _ ga ca cs (by omega) r ra ha1 ha8 hasz (by omega) (by omega)).mono ?_
  clear r ra
  rintro e w3 ⟨gb, cb, es, rfl, rb, hgb, hb8, r, c⟩
  have s3 := c.size
  have HP3 := hid ((c.block gP (by omega) (by omega) (by omega)).trans HP.out)
  have c3 : Chg g (g + 1) w w3 := cA.trans2 c (by omega)
  have z0 := row_cell HP3.out 0
  have f0 := row_free HP3.out 0
  have HF := hid (row_set HP3.out 0 (.slice (some ⟨gb, 0, none⟩) es.length cb))
  have r4 := r.chg (set_chgE w3 gP 0 (.slice (some ⟨gb, 0, none⟩) es.length cb)) (by omega) (by omega)
  have c4 := c3.setNew (p := ⟨gP, 0, none⟩) (show w.heap.size ≤ gP by omega) (.slice (some ⟨gb, 0, none⟩) es.length cb)
  have rb4 := rb.cong (w' := w3.setCell ⟨gP, 0, none⟩ (.slice (some ⟨gb, 0, none⟩) es.length cb)) (hi' := gb + 1) (Below.heap_setCell w3 ⟨gP, 0, none⟩ _ gb (show gb ≠ gP by omega)) (Nat.le_refl _)
  clear c HP r rb hasz
  go_wp2
  (try simp only [Exit.inBlock, Exit.then])
  refine bodyPost_eng rfl rfl (by rfl) HF.out ?_
  exact ⟨gb, cb, es, rfl, rb4, by omega, hb8, r4, c4⟩
/-- What is left by a call that draws an engine and a number. -/
def EngInt (w : World) (e : Ending) (w' : World) : Prop :=
  ∃ (a : Option Addr) (cap : Nat) (cs : List ByteArray) (n : Int), e = .returned (.tuple #[.agg #[.slice a cs.length cap], .int .i64 n]) ∧ I64 n ∧ IsT w' w'.heap.size (.slice a cs.length cap) cs ∧ cs.length ≤ 8 ∧ Below w.heap.size w w'
theorem bodyPost_eng5 {fn : Func} {p q1 q2 q3 q4 : Tmp} (h : fn.results = #[.cell p 25, .tmp q1, .tmp q2, .tmp q3, .tmp q4]) {a : Act} {w' : World} {g : Nat} {v u1 u2 u3 u4 : Value} {Q : Ending → World → Prop}
    (hd : a.defers = []) (hp : a.tmps.getD p undef = .pointer (some ⟨g, 0, none⟩)) (h1 : a.tmps.getD q1 undef = u1) (h2 : a.tmps.getD q2 undef = u2) (h3 : a.tmps.getD q3 undef = u3) (h4 : a.tmps.getD q4 undef = u4) (hg : w'.heap[g]? = some (.cells #[v] 25 (0, 0)))
    (hq : Q (.returned (.tuple #[.agg #[v], u1, u2, u3, u4])) w') : bodyPost Tryd.prog fn Q .ret a w' := by
  refine bodyPost_ret (v := .tuple #[.agg #[v], u1, u2, u3, u4]) ?_ hd hq
  have hp' : a.tmps[p]?.getD undef = .pointer (some ⟨g, 0, none⟩) := by rw [← Array.getD_eq_getD_getElem?]; exact hp
  have h1' : a.tmps[q1]?.getD undef = u1 := by rw [← Array.getD_eq_getD_getElem?]; exact h1
  have h2' : a.tmps[q2]?.getD undef = u2 := by rw [← Array.getD_eq_getD_getElem?]; exact h2
  have h3' : a.tmps[q3]?.getD undef = u3 := by rw [← Array.getD_eq_getD_getElem?]; exact h3
  have h4' : a.tmps[q4]?.getD undef = u4 := by rw [← Array.getD_eq_getD_getElem?]; exact h4
  simp [results, h, hp', h1', h2', h3', h4', asAddr, Result.andThen, run_loadVar_row (P := Tryd.prog) w' g 25 25 #[v] (0, 0) _ hg Tryd.underlying25 rfl Tryd.infoEng]
/-- What is left by a call that draws an engine and four numbers. -/
def EngInts (w : World) (e : Ending) (w' : World) : Prop :=
  ∃ (a : Option Addr) (cap : Nat) (cs : List ByteArray) (n x y z : Int), e = .returned (.tuple #[.agg #[.slice a cs.length cap], .int .i64 n, .int .i64 x, .int .i64 y, .int .i64 z]) ∧ (I64 n ∧ I64 x ∧ I64 y ∧ I64 z) ∧ IsT w' w'.heap.size (.slice a cs.length cap) cs ∧ cs.length ≤ 8 ∧ Below w.heap.size w w'
/-- A row of strings reads as before where only the reader has changed. -/
theorem engrd {w w' : World} {B g : Nat} {v : Value} {cs : List ByteArray} (h : IsT w B v cs) (hB : B ≤ w.heap.size) (c : Chg g (g + 1) w w') (hg : ∀ o s, w.cell? ⟨g, o, none⟩ ≠ some (.string s)) : IsT w' B v cs := by
  obtain ⟨av, cap, rfl, hm, hc⟩ := h
  refine ⟨av, cap, rfl, hm, fun i hi => ?_⟩
  obtain ⟨b, off, rfl, hb, hcell, hs⟩ := hc i hi
  have hne : ¬ b = g := by rintro rfl; exact hg _ _ hcell
  exact ⟨b, off, rfl, hb, (World.cell?_of_block (w := w) (a := ⟨b, off + i, none⟩) (c.block b (by omega) (by omega))).trans hcell, hs⟩
theorem Rd.ns {w : World} {B g L : Nat} (h : Rd w B g L) : ∀ o s, w.cell? ⟨g, o, none⟩ ≠ some (.string s) := by
  intro o s e
  obtain ⟨bv, nb, p, h1, ⟨a, cap, rfl, _⟩, _⟩ := h
  rw [row_cell h1] at e
  match o, e with
  | 0, e => simp at e
  | 1, e => simp at e
  | o + 2, e => rw [Array.getElem?_eq_none (by simp)] at e; cases e
end Go.Proofs.YtkaanlldjkflaaaDoor
