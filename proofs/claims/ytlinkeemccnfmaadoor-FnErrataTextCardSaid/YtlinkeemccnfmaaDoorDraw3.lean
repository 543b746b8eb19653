/- What is proved here: contracts of DrawTableValid, DrawNinesOf, DrawWrongNines, DrawPutError, DrawCleanTable, DrawFindError, DrawDiagnoseSlip, DrawErrataOf. -/
import Derived.Test.YtlinkeemccnfmaaDoorDraw2
import Derived.Test.YtlinkeemccnfmaaDoorDraw1
import Derived.Test.YtlinkeemccnfmaaDoorErr2
import Derived.Test.YtlinkeemccnfmaaDoorErr3
set_option linter.unusedVariables false
set_option linter.unusedSimpArgs false
namespace Go.Proofs.YtlinkeemccnfmaaDoor
open Go.RowKit

theorem Rd.drew {w : World} {B g L : Nat} (h : Rd w B g L) : Rd w.drew B g L := h
theorem Wc.drew {w : World} {g off cap : Nat} {xs : List Int} (h : Wc w g off cap xs) : Wc w.drew g off cap xs := h
theorem Chg.undrew {lo hi : Nat} {w w' : World} (c : Chg lo hi w.drew w') : Chg lo hi w w' := ⟨c.os, c.tape, c.output, c.size, c.block⟩
theorem OwnI.ch2 {w w' : World} {B g b : Nat} {v : Value} {xs : List Int} (h : OwnI w B v xs) (c : Ch2 g b w w') (h1 : g < B) (h2 : b < B) : OwnI w' B v xs :=
  ownsRow_of_block h fun k hk => c.block k (h.lt k hk).2 (by have := (h.lt k hk).1; omega) (by have := (h.lt k hk).1; omega)
theorem OwnI.drew {w : World} {B : Nat} {v : Value} {xs : List Int} (h : OwnI w B v xs) : OwnI w.drew B v xs := h
/-- What is left by a call that answers some table, whatever it holds. -/
def OneTab (w : World) (e : Ending) (w' : World) : Prop := ∃ v xs, e = .returned v ∧ IsI w' w'.heap.size v xs ∧ Below w.heap.size w w'
/-- .. two tables. -/
def TwoTabs (w : World) (e : Ending) (w' : World) : Prop := ∃ v u xs ys, e = .returned (.tuple #[v, u]) ∧ IsI w' w'.heap.size v xs ∧ IsI w' w'.heap.size u ys ∧ Below w.heap.size w w'
/-- .. a table and a number. -/
def TabInt (w : World) (e : Ending) (w' : World) : Prop := ∃ (v : Value) (xs : List Int) (n : Int), e = .returned (.tuple #[v, .int .i64 n]) ∧ I64 n ∧ IsI w' w'.heap.size v xs ∧ Below w.heap.size w w'
/-- .. a table and two numbers. -/
def TabInts (w : World) (e : Ending) (w' : World) : Prop := ∃ (v : Value) (xs : List Int) (n m : Int), e = .returned (.tuple #[v, .int .i64 n, .int .i64 m]) ∧ (I64 n ∧ I64 m) ∧ IsI w' w'.heap.size v xs ∧ Below w.heap.size w w'


end Go.Proofs.YtlinkeemccnfmaaDoor
