/- What is proved here: those statements of Base that this claim needs. -/
import Derived.WalkKit
import Derived.Outline
import Derived.OpenShut
import Derived.Deep.QuietTactic
import Derived.Deep.LoopGhost
import Derived.BigQuiet
set_option linter.unusedVariables false
set_option linter.unusedSimpArgs false
namespace Go.Proofs.YtlinkeemccnfmaaGreatDoor
open Go.RowKit
theorem hid {p : Prop} (h : p) : Hid p := h
theorem retB {a b : Bool} (h : a = b) : Ending.returned (.bool a) = .returned (.bool b) := by rw [h]
theorem retI' {a b : Int} (h : a = b) : Value.int .i64 a = .int .i64 b := by rw [h]
theorem retI {a b : Int} (h : a = b) : Ending.returned (.int .i64 a) = .returned (.int .i64 b) := by rw [h]

def el (xs : List Int) (j : Nat) : Int := xs.getD j 0
theorem el_lt {xs : List Int} {k : Nat} (h : k < xs.length) : el xs k = xs[k] := by
  unfold el; rw [List.getD_eq_getElem?_getD, List.getElem?_eq_getElem h]; rfl
theorem el_ge {xs : List Int} {k : Nat} (h : xs.length ≤ k) : el xs k = 0 := by
  unfold el; rw [List.getD_eq_getElem?_getD, List.getElem?_eq_none h]; rfl
theorem el_mem {xs : List Int} {k : Nat} (h : k < xs.length) : el xs k ∈ xs := by rw [el_lt h]; exact List.getElem_mem h
theorem mem_el {xs : List Int} {x : Int} (h : x ∈ xs) : ∃ k, k < xs.length ∧ el xs k = x := by
  obtain ⟨k, hk, e⟩ := List.mem_iff_getElem.1 h; exact ⟨k, hk, by rw [el_lt hk]; exact e⟩
theorem take_el {xs : List Int} {k : Nat} (h : k < xs.length) : xs.take (k+1) = xs.take k ++ [el xs k] := by
  rw [List.take_succ_eq_append_getElem h, el_lt h]
theorem take_set {xs ys : List Int} {j : Nat} {x : Int} (hj : j < xs.length) (hl : ys.length = xs.length) (hx : x = el xs j) (h : ys.take j = xs.take j) : (ys.set j x).take (j + 1) = xs.take (j + 1) := by
  subst hx
  rw [take_el hj, List.take_succ_eq_append_getElem (by simpa using (by omega : j < ys.length)), List.take_set_of_le (Nat.le_refl _), h]
  simp
theorem take_eq_succ {xs ys : List Int} {k : Nat} (h1 : k < xs.length) (h2 : k < ys.length) (h : xs.take k = ys.take k) (he : el xs k = el ys k) : xs.take (k+1) = ys.take (k+1) := by
  rw [take_el h1, take_el h2, h, he]
theorem list_ext {xs ys : List Int} (hl : xs.length = ys.length) (h : ∀ k, k < xs.length → el xs k = el ys k) : xs = ys := by
  apply List.ext_getElem hl
  intro k h1 h2
  rw [← el_lt h1, ← el_lt h2]; exact h k h1
theorem el_map {α : Type} (f : α → Int) (l : List α) (k : Nat) (h : k < l.length) : el (l.map f) k = f l[k] := by
  rw [el_lt (by simpa using h)]; simp
theorem el_append_left {xs ys : List Int} {k : Nat} (h : k < xs.length) : el (xs ++ ys) k = el xs k := by
  rw [el_lt h, el_lt (by simp; omega), List.getElem_append_left h]
theorem el_append_right {xs ys : List Int} {k : Nat} (h : xs.length ≤ k) : el (xs ++ ys) k = el ys (k - xs.length) := by
  unfold el; simp [List.getElem?_append_right h]
theorem el_take {xs : List Int} {n k : Nat} (h : k < n) : el (xs.take n) k = el xs k := by
  unfold el; simp [h]
theorem el_drop {xs : List Int} {n k : Nat} : el (xs.drop n) k = el xs (n + k) := by
  unfold el; simp
theorem el_set_same {xs : List Int} {k : Nat} {x : Int} (h : k < xs.length) : el (xs.set k x) k = x := by
  rw [el_lt (by simpa using h)]; simp
theorem el_set_other {xs : List Int} {j k : Nat} {x : Int} (h : k ≠ j) : el (xs.set k x) j = el xs j := by
  unfold el; simp [List.getElem?_set_ne h]

def eqL (xs ys : List Int) : Bool := decide (xs = ys)
theorem eqL_self (xs : List Int) : eqL xs xs = true := by simp [eqL]
theorem eqL_len {xs ys : List Int} (h : xs.length ≠ ys.length) : eqL xs ys = false := by
  simp only [eqL, decide_eq_false_iff_not]; intro e; exact h (by rw [e])
theorem eqL_at {xs ys : List Int} {k : Nat} (h : el xs k ≠ el ys k) : eqL xs ys = false := by
  simp only [eqL, decide_eq_false_iff_not]; intro e; exact h (by rw [e])
theorem eqL_all {xs ys : List Int} {k : Nat} (hl : xs.length = ys.length) (hk : xs.length ≤ k) (h : xs.take k = ys.take k) : eqL xs ys = true := by
  simp only [eqL, decide_eq_true_eq]
  rwa [List.take_of_length_le (by omega), List.take_of_length_le (by omega)] at h

def inB (n lo hi : Int) : Bool := decide (lo ≤ n ∧ n ≤ hi)
theorem inB_yes {n lo hi : Int} (h1 : lo ≤ n) (h2 : n ≤ hi) : inB n lo hi = true := by simp [inB, h1, h2]
theorem inB_no {n lo hi : Int} (h : n < lo ∨ hi < n) : inB n lo hi = false := by simp [inB]; omega
theorem inB_iff {n lo hi : Int} : inB n lo hi = true ↔ lo ≤ n ∧ n ≤ hi := by simp [inB]
theorem inB_iff' {n lo hi : Int} : inB n lo hi = false ↔ (n < lo ∨ hi < n) := by simp [inB]; omega

def ten (k : Nat) : Int := 10 ^ k
theorem ten_succ (k : Nat) : ten (k + 1) = ten k * 10 := Int.pow_succ ..
theorem ten_pos (k : Nat) : 1 ≤ ten k := by
  induction k with
  | zero => decide
  | succ k ih => rw [ten_succ]; omega
theorem ten_mono {a b : Nat} (h : a ≤ b) : ten a ≤ ten b := by
  obtain ⟨c, rfl⟩ := Nat.le.dest h
  clear h
  induction c with
  | zero => exact Int.le_refl _
  | succ c ih => rw [← Nat.add_assoc, ten_succ]; have := ten_pos (a + c); omega
def md (n m : Int) : Int := n % m
theorem md_nonneg (n : Int) {m : Int} (h : 0 < m) : 0 ≤ md n m := Int.emod_nonneg _ (by omega)
theorem md_lt (n : Int) {m : Int} (h : 0 < m) : md n m < m := Int.emod_lt_of_pos _ h

theorem md_tmod (n m : Int) : md n m = md (n.tmod m) m := by
  unfold md
  have h := Int.mul_tdiv_add_tmod n m
  rw [show n % m = (m * n.tdiv m + n.tmod m) % m from by rw [h], Int.add_comm, Int.add_mul_emod_self_left]
theorem tmod_bd (n : Int) {m : Int} (h : 0 < m) : -m < n.tmod m ∧ n.tmod m < m := by
  refine ⟨?_, Int.tmod_lt_of_pos n h⟩
  have := Int.tmod_lt_of_pos (-n) h
  rw [Int.neg_tmod] at this; omega
theorem md_small {n m : Int} (h0 : 0 ≤ n) (h1 : n < m) : md n m = n := Int.emod_eq_of_lt h0 h1
theorem md_neg {n m : Int} (h : 0 < m) (h0 : n.tmod m < 0) : md n m = n.tmod m + m := by
  have hb := tmod_bd n h
  rw [md_tmod]
  show n.tmod m % m = _
  rw [← Int.add_emod_right]
  exact Int.emod_eq_of_lt (by omega) (by omega)
theorem md_pos {n m : Int} (h : 0 < m) (h0 : 0 ≤ n.tmod m) : md n m = n.tmod m := by
  have hb := tmod_bd n h
  rw [md_tmod]
  exact md_small h0 hb.2
theorem md_rest {n m : Int} (h : 0 < m) : md n m = (n.tmod m + m).tmod m := by
  have hb := tmod_bd n h
  rw [Int.tmod_eq_emod_of_nonneg (by omega), Int.add_emod_right]
  exact md_tmod n m

def chF (n : Int) : Nat → Int
  | 0 => 1
  | k + 1 => (chF n k * (n - k)).tdiv (k + 1)
theorem tdiv_bd {a b B : Int} (hb : 0 < b) (h1 : -(B * b) ≤ a) (h2 : a ≤ B * b) : -B ≤ a.tdiv b ∧ a.tdiv b ≤ B := by
  have e1 : (B * b).tdiv b = B := Int.mul_tdiv_cancel _ (by omega)
  have e2 : (-(B * b)).tdiv b = -B := by rw [Int.neg_tdiv, e1]
  constructor
  · rw [← e2]; exact Int.tdiv_le_tdiv hb h1
  · rw [← e1]; exact Int.tdiv_le_tdiv hb h2
theorem mul_bd {a b A B : Int} (hA : 0 ≤ A) (h1 : -A ≤ a) (h2 : a ≤ A) (h3 : -B ≤ b) (h4 : b ≤ B) : -(A * B) ≤ a * b ∧ a * b ≤ A * B := by
  have hB : 0 ≤ B := by omega
  have e := Int.natAbs_mul a b
  have i1 : (a.natAbs : Int) ≤ A := by omega
  have i2 : (b.natAbs : Int) ≤ B := by omega
  have i3 : (a.natAbs : Int) * b.natAbs ≤ A * B := Int.mul_le_mul i1 i2 (by omega) hA
  have i4 : ((a * b).natAbs : Int) ≤ A * B := by rw [e, Int.natCast_mul]; exact i3
  omega

theorem ch_step {n : Int} {k : Nat} {A A' C : Int} (hn : -300 ≤ n ∧ n ≤ 300) (hk : k ≤ 6) (hA : 0 ≤ A) (h : -A ≤ chF n k ∧ chF n k ≤ A) (hC : C = 300 + k) (hA' : A * C = A' * (k + 1)) :
    -A' ≤ chF n (k + 1) ∧ chF n (k + 1) ≤ A' := by
  have hm := mul_bd (a := chF n k) (b := n - k) (A := A) (B := C) hA h.1 h.2 (by omega) (by omega)
  rw [hA'] at hm
  exact tdiv_bd (by omega) hm.1 hm.2
theorem ch0 (n : Int) : -1 ≤ chF n 0 ∧ chF n 0 ≤ 1 := by simp [chF]
theorem ch1 {n : Int} (hn : -300 ≤ n ∧ n ≤ 300) : -300 ≤ chF n 1 ∧ chF n 1 ≤ 300 := ch_step (A := 1) (C := 300) hn (by omega) (by omega) (ch0 n) (by omega) (by omega)
theorem ch2 {n : Int} (hn : -300 ≤ n ∧ n ≤ 300) : -45150 ≤ chF n 2 ∧ chF n 2 ≤ 45150 := ch_step (A := 300) (C := 301) hn (by omega) (by omega) (ch1 hn) (by omega) (by omega)
theorem ch3 {n : Int} (hn : -300 ≤ n ∧ n ≤ 300) : -4545100 ≤ chF n 3 ∧ chF n 3 ≤ 4545100 := ch_step (A := 45150) (C := 302) hn (by omega) (by omega) (ch2 hn) (by omega) (by omega)
theorem ch4 {n : Int} (hn : -300 ≤ n ∧ n ≤ 300) : -344291325 ≤ chF n 4 ∧ chF n 4 ≤ 344291325 := ch_step (A := 4545100) (C := 303) hn (by omega) (by omega) (ch3 hn) (by omega) (by omega)
theorem ch5 {n : Int} (hn : -300 ≤ n ∧ n ≤ 300) : -20932912560 ≤ chF n 5 ∧ chF n 5 ≤ 20932912560 := ch_step (A := 344291325) (C := 304) hn (by omega) (by omega) (ch4 hn) (by omega) (by omega)
theorem ch6 {n : Int} (hn : -300 ≤ n ∧ n ≤ 300) : -1064089721800 ≤ chF n 6 ∧ chF n 6 ≤ 1064089721800 := ch_step (A := 20932912560) (C := 305) hn (by omega) (by omega) (ch5 hn) (by omega) (by omega)
theorem ch7 {n : Int} (hn : -300 ≤ n ∧ n ≤ 300) : -46515922124400 ≤ chF n 7 ∧ chF n 7 ≤ 46515922124400 := ch_step (A := 1064089721800) (C := 306) hn (by omega) (by omega) (ch6 hn) (by omega) (by omega)
theorem ch_bd {n : Int} {k : Nat} (hn : -300 ≤ n ∧ n ≤ 300) (hk : k ≤ 7) : -46515922124400 ≤ chF n k ∧ chF n k ≤ 46515922124400 := by
  have := ch0 n; have := ch1 hn; have := ch2 hn; have := ch3 hn; have := ch4 hn; have := ch5 hn; have := ch6 hn; have := ch7 hn
  match k, hk with
  | 0, _ => omega
  | 1, _ => omega
  | 2, _ => omega
  | 3, _ => omega
  | 4, _ => omega
  | 5, _ => omega
  | 6, _ => omega
  | 7, _ => omega
theorem ch_bd6 {n : Int} {k : Nat} (hn : -300 ≤ n ∧ n ≤ 300) (hk : k ≤ 6) : -1064089721800 ≤ chF n k ∧ chF n k ≤ 1064089721800 := by
  have := ch0 n; have := ch1 hn; have := ch2 hn; have := ch3 hn; have := ch4 hn; have := ch5 hn; have := ch6 hn
  match k, hk with
  | 0, _ => omega
  | 1, _ => omega
  | 2, _ => omega
  | 3, _ => omega
  | 4, _ => omega
  | 5, _ => omega
  | 6, _ => omega
theorem ch_mul_bd {n : Int} {k : Nat} (hn : -300 ≤ n ∧ n ≤ 300) (hk : k ≤ 6) : -325611454870800 ≤ chF n k * (n - k) ∧ chF n k * (n - k) ≤ 325611454870800 := by
  have h := ch_bd6 hn hk
  have := mul_bd (a := chF n k) (b := n - k) (A := 1064089721800) (B := 306) (by omega) h.1 h.2 (by omega) (by omega)
  omega

def slipB (c t a : Int) : Bool := inB c 0 6 && inB t 0 59 && inB a (-100000) 100000
theorem slipB_iff {c t a : Int} : slipB c t a = true ↔ (0 ≤ c ∧ c ≤ 6) ∧ (0 ≤ t ∧ t ≤ 59) ∧ (-100000 ≤ a ∧ a ≤ 100000) := by
  simp only [slipB, Bool.and_eq_true, inB_iff]; exact and_assoc

theorem cq {P : Program} {f : FuncId} {args : Array Value} {w : World} {n : Nat} {v : Value} (h : Calls P f args (w.drewN n) fun e w' => e = .returned v ∧ w.drewN n = w') :
    Calls P f args (w.drewN n) fun e w'' => e = .returned v ∧ ∃ m, w'' = w.drewN m := h.mono fun _ _ ⟨he, hw⟩ => ⟨he, n, hw.symm⟩

def effF (c : Nat) (t a n : Int) : Int := if n < t then 0 else a * chF (n - t) c
def slipF (c t a cnt : Int) : List Int := if slipB c t a && inB cnt 0 60 then (List.range cnt.toNat).map fun i => effF c.toNat t a (i : Nat) else []
def slipOk (c t a cnt : Int) : Bool := slipB c t a && inB cnt 0 60

def R64 (xs : List Int) : Prop := ∀ x ∈ xs, -9223372036854775808 ≤ x ∧ x ≤ 9223372036854775807
theorem R64.at {xs : List Int} (h : R64 xs) (k : Nat) : -9223372036854775808 ≤ el xs k ∧ el xs k ≤ 9223372036854775807 := by
  by_cases hk : k < xs.length
  · exact h _ (el_mem hk)
  · rw [el_ge (by omega)]; omega
theorem R64.of_el {xs : List Int} (h : ∀ k, k < xs.length → -9223372036854775808 ≤ el xs k ∧ el xs k ≤ 9223372036854775807) : R64 xs := by
  intro x hx; obtain ⟨k, hk, rfl⟩ := mem_el hx; exact h k hk
theorem R64.nil : R64 [] := by intro x hx; cases hx
theorem R64.append {xs ys : List Int} (h : R64 xs) (h' : R64 ys) : R64 (xs ++ ys) := by
  intro x hx; exact (List.mem_append.1 hx).elim (h x) (h' x)
theorem R64.one {x : Int} (h : -9223372036854775808 ≤ x ∧ x ≤ 9223372036854775807) : R64 [x] := by
  intro y hy; simp at hy; subst hy; exact h
theorem R64.take {xs : List Int} (h : R64 xs) (n : Nat) : R64 (xs.take n) := fun x hx => h x (List.mem_of_mem_take hx)
theorem R64.drop {xs : List Int} (h : R64 xs) (n : Nat) : R64 (xs.drop n) := fun x hx => h x (List.mem_of_mem_drop hx)

def alw (b : Int) (xs : List Int) : Bool := decide (∀ x ∈ xs, -b ≤ x ∧ x ≤ b)
theorem alw_iff {b : Int} {xs : List Int} : alw b xs = true ↔ ∀ k, k < xs.length → -b ≤ el xs k ∧ el xs k ≤ b := by
  simp only [alw, decide_eq_true_eq]
  exact ⟨fun h k hk => h _ (el_mem hk), fun h x hx => by obtain ⟨k, hk, rfl⟩ := mem_el hx; exact h k hk⟩
theorem alw_no {b : Int} {xs : List Int} {k : Nat} (hk : k < xs.length) (h : inB (el xs k) (-b) b = false) : alw b xs = false := by
  rw [← Bool.not_eq_true, alw_iff]; intro h'
  have := h' k hk; rw [inB_iff'] at h; omega
theorem alw_yes {b : Int} {xs : List Int} {j : Nat} (hj : xs.length ≤ j) (h : ∀ k, k < j → inB (el xs k) (-b) b = true) : alw b xs = true := by
  rw [alw_iff]; intro k hk; exact inB_iff.1 (h k (by omega))
def TB (xs : List Int) : Bool := inB xs.length 1 60 && alw 1000000000 xs
theorem TB_iff {xs : List Int} : TB xs = true ↔ 1 ≤ xs.length ∧ xs.length ≤ 60 ∧ ∀ k, k < xs.length → -1000000000 ≤ el xs k ∧ el xs k ≤ 1000000000 := by
  rw [TB, Bool.and_eq_true, inB_iff, alw_iff]
  exact ⟨fun h => ⟨by omega, by omega, h.2⟩, fun h => ⟨by omega, h.2.2⟩⟩
theorem TB_len {xs : List Int} (h : inB xs.length 1 60 = false) : TB xs = false := by simp [TB, h]
theorem TB_len' {xs : List Int} (h : inB xs.length 1 60 = true) : TB xs = alw 1000000000 xs := by simp [TB, h]

def Bd (b : Int) (xs : List Int) : Prop := ∀ k, k < xs.length → -b ≤ el xs k ∧ el xs k ≤ b
theorem Bd.mono {b c : Int} {xs : List Int} (h : Bd b xs) (hc : b ≤ c) : Bd c xs := fun k hk => by have := h k hk; omega
theorem Bd.r64 {b : Int} {xs : List Int} (h : Bd b xs) (hb : b ≤ 9223372036854775807) : R64 xs := R64.of_el fun k hk => by have := h k hk; omega
theorem TB_Bd {xs : List Int} (h : TB xs = true) : Bd 1000000000 xs := (TB_iff.1 h).2.2
def dF (xs : List Int) : List Int := (List.range (xs.length - 1)).map fun i => el xs (i + 1) - el xs i
theorem dF_len (xs : List Int) : (dF xs).length = xs.length - 1 := by simp [dF]
theorem dF_el {xs : List Int} {k : Nat} (h : k + 1 < xs.length) : el (dF xs) k = el xs (k + 1) - el xs k := by
  unfold dF; rw [el_map _ _ _ (by simp; omega)]; simp
theorem dF_bd {b : Int} {xs : List Int} (h : Bd b xs) : Bd (2 * b) (dF xs) := by
  intro k hk
  rw [dF_len] at hk
  rw [dF_el (by omega)]
  have h1 := h k (by omega); have h2 := h (k + 1) (by omega); omega
def dN (xs : List Int) : Nat → List Int
  | 0 => xs
  | n + 1 => dF (dN xs n)
theorem dN_len (xs : List Int) (n : Nat) : (dN xs n).length = xs.length - n := by
  induction n with
  | zero => rfl
  | succ n ih => rw [dN, dF_len, ih]; omega
structure Chg (lo hi : Nat) (w w' : World) : Prop where
  os : w'.os = w.os
  tape : w'.tape = w.tape
  output : w'.output = w.output
  size : w.heap.size ≤ w'.heap.size
  block : ∀ k, k < w.heap.size → ¬ (lo ≤ k ∧ k < hi) → w'.heap[k]? = w.heap[k]?
theorem Chg.below {lo hi B : Nat} {w w' : World} (h : Chg lo hi w w') (hB : B ≤ lo ∨ hi ≤ lo) (hs : B ≤ w.heap.size) : Below B w w' :=
  ⟨h.os, h.tape, h.output, h.size, fun k hk => h.block k (by omega) (by omega)⟩
theorem Chg.refl (lo hi : Nat) (w : World) : Chg lo hi w w := ⟨rfl, rfl, rfl, Nat.le_refl _, fun _ _ _ => rfl⟩
theorem Chg.drewN {lo hi : Nat} {w w' : World} (h : Chg lo hi w w') (n : Nat) : Chg lo hi w (w'.drewN n) := ⟨h.os, h.tape, h.output, h.size, h.block⟩
theorem Chg.trans {lo hi : Nat} {a b c : World} (h : Chg lo hi a b) (k : Chg lo hi b c) : Chg lo hi a c :=
  ⟨k.os.trans h.os, k.tape.trans h.tape, k.output.trans h.output, Nat.le_trans h.size k.size, fun i hi hn => (k.block i (Nat.lt_of_lt_of_le hi h.size) hn).trans (h.block i hi hn)⟩
theorem Chg.setCell {lo hi : Nat} {w w' : World} (h : Chg lo hi w w') {p : Addr} (h1 : lo ≤ p.block) (h2 : p.block < hi) (u : Value) : Chg lo hi w (w'.setCell p u) :=
  h.trans ⟨rfl, rfl, rfl, by simp [World.setCell], fun k _ hn => Below.heap_setCell _ _ _ _ (by omega)⟩
theorem bel_drewN {B : Nat} {w w' : World} (h : Below B w w') (n : Nat) : Below B w (w'.drewN n) := ⟨h.os, h.tape, h.output, h.size, h.block⟩
def IsI (w : World) (B : Nat) (v : Value) (xs : List Int) : Prop :=
  ∃ a cap, v = .slice a xs.length cap ∧ (xs.length ≤ cap ∧ cap ≤ maxLen ∧ Hid (a = none → cap = 0)) ∧ R64 xs ∧
   ∀ i, i < xs.length → ∃ b off, a = some ⟨b, off, none⟩ ∧ b < B ∧ ∀ j, j < xs.length → w.cell? ⟨b, off+j, none⟩ = some (.int .i64 (el xs j))
theorem IsI.below {w w' : World} {B B' : Nat} {v : Value} {xs : List Int} (h : IsI w B v xs) (hb : Below B' w w') (hB : B ≤ B') : IsI w' B v xs := by
  obtain ⟨a, cap, rfl, hm, hr, hc⟩ := h
  refine ⟨a, cap, rfl, hm, hr, fun i hi => ?_⟩
  obtain ⟨b, off, rfl, hbB, hcell⟩ := hc i hi
  exact ⟨b, off, rfl, hbB, fun j hj => (hb.cell (p := ⟨b, off + j, none⟩) (show b < B' by omega)).trans (hcell j hj)⟩
theorem IsI.chg {w w' : World} {B lo hi : Nat} {v : Value} {xs : List Int} (h : IsI w B v xs) (hb : Chg lo hi w w') (hB : B ≤ lo ∨ hi ≤ lo) (hs : B ≤ w.heap.size) : IsI w' B v xs :=
  h.below (hb.below hB hs) (Nat.le_refl _)
theorem IsI.drewN {w : World} {B : Nat} {v : Value} {xs : List Int} (h : IsI w B v xs) (n : Nat) : IsI (w.drewN n) B v xs := h
theorem IsI.up {w : World} {B B' : Nat} {v : Value} {xs : List Int} (h : IsI w B v xs) (hB : B ≤ B') : IsI w B' v xs := by
  obtain ⟨a, cap, rfl, hm, hr, hc⟩ := h
  exact ⟨a, cap, rfl, hm, hr, fun i hi => by obtain ⟨b, off, rfl, hbB, hcell⟩ := hc i hi; exact ⟨b, off, rfl, by omega, hcell⟩⟩
theorem IsI.range {w : World} {B : Nat} {v : Value} {xs : List Int} (h : IsI w B v xs) : R64 xs := h.choose_spec.choose_spec.2.2.1

def IsBy (w : World) (B : Nat) (v : Value) (n : Nat) : Prop :=
  ∃ a cap, v = .slice a n cap ∧ (n ≤ cap ∧ cap ≤ maxLen) ∧ ∀ i, i < n → ∃ b off, a = some ⟨b, off, none⟩ ∧ b < B ∧ ∀ j, j < n → ∃ y : Int, 0 ≤ y ∧ y ≤ 255 ∧ w.cell? ⟨b, off+j, none⟩ = some (.int .u8 y)
theorem IsBy.below {w w' : World} {B B' : Nat} {v : Value} {n : Nat} (h : IsBy w B v n) (hb : Below B' w w') (hB : B ≤ B') : IsBy w' B v n := by
  obtain ⟨a, cap, rfl, hm, hc⟩ := h
  refine ⟨a, cap, rfl, hm, fun i hi => ?_⟩
  obtain ⟨b, off, rfl, hbB, hcell⟩ := hc i hi
  exact ⟨b, off, rfl, hbB, fun j hj => by obtain ⟨y, h0, h1, h2⟩ := hcell j hj; exact ⟨y, h0, h1, (hb.cell (p := ⟨b, off + j, none⟩) (show b < B' by omega)).trans h2⟩⟩
def Rw (w : World) (lo hi : Nat) (v : Value) (xs : List Int) : Prop :=
  w.ownsRow lo 3 1 v xs.length (xs.map (Value.int .i64)) ∧ (∀ k, v.ownBlock = some k → k < hi) ∧ R64 xs
theorem ownsRow_of_block {w w' : World} {base : Nat} {e : TypeId} {size : Nat} {v : Value} {n : Nat} {xs : List Value} (h : w.ownsRow base e size v n xs)
    (hb : ∀ k, v.ownBlock = some k → w'.heap[k]? = w.heap[k]?) : w'.ownsRow base e size v n xs := by
  refine ⟨h.1, ?_⟩
  rcases h.2 with hn | ⟨g, cap, cur, rfl, hbg, hgg, rest⟩
  · exact .inl hn
  · refine .inr ⟨g, cap, cur, rfl, hbg, ?_, rest⟩
    rw [hb g rfl]; exact hgg
theorem Rw.below {w w' : World} {lo hi B : Nat} {v : Value} {xs : List Int} (h : Rw w lo hi v xs) (hc : Below B w w') (hd : hi ≤ B) : Rw w' lo hi v xs := by
  refine ⟨ownsRow_of_block h.1 fun k hk => ?_, h.2⟩
  have h2 := h.2.1 k hk
  exact hc.block k (by omega)
theorem Rw.drewN {w : World} {lo hi : Nat} {v : Value} {xs : List Int} (h : Rw w lo hi v xs) (n : Nat) : Rw (w.drewN n) lo hi v xs := h
theorem Rw.of_own {w : World} {lo hi : Nat} {v : Value} {xs : List Int} (h : w.ownsRow lo 3 1 v xs.length (xs.map (Value.int .i64))) (hr : R64 xs) (hh : w.heap.size ≤ hi) : Rw w lo hi v xs :=
  ⟨h, fun k hk => Nat.lt_of_lt_of_le (h.lt k hk).2 hh, hr⟩
theorem Rw.up {w : World} {lo hi hi' : Nat} {v : Value} {xs : List Int} (h : Rw w lo hi v xs) (hh : hi ≤ hi') : Rw w lo hi' v xs := ⟨h.1, fun k hk => Nat.lt_of_lt_of_le (h.2.1 k hk) hh, h.2.2⟩
theorem Rw.nil (w : World) (lo hi : Nat) : Rw w lo hi (.slice none 0 0) [] := ⟨World.ownsRow_nil _ _ _ _, fun k hk => by simp [Value.ownBlock] at hk, R64.nil⟩
theorem Rw.range {w : World} {lo hi : Nat} {v : Value} {xs : List Int} (h : Rw w lo hi v xs) : R64 xs := h.2.2
theorem Rw.down {w : World} {lo lo' hi : Nat} {v : Value} {xs : List Int} (h : Rw w lo hi v xs) (hh : lo' ≤ lo) : Rw w lo' hi v xs := by
  refine ⟨⟨h.1.1, ?_⟩, h.2⟩
  rcases h.1.2 with hn | ⟨g, cap, cur, rfl, hbg, rest⟩
  · exact .inl hn
  · exact .inr ⟨g, cap, cur, rfl, by omega, rest⟩

theorem map_int_at (xs : List Int) (j : Nat) (h : j < xs.length) : (xs.map (Value.int .i64))[j]? = some (.int .i64 (el xs j)) := by
  rw [List.getElem?_map, List.getElem?_eq_getElem h, el_lt h]; rfl
theorem own_cell {w : World} {B : Nat} {e : TypeId} {g n cap : Nat} {xs : List Value} (h : w.ownsRow B e 1 (.slice (some ⟨g, 0, none⟩) n cap) n xs) (j : Nat) (hj : j < n) : w.cell? ⟨g, j, none⟩ = xs[j]? :=
  World.ownsRow.cellAt h j (by omega)
theorem Rw.isI {w : World} {lo hi : Nat} {v : Value} {xs : List Int} (h : Rw w lo hi v xs) : IsI w hi v xs := by
  obtain ⟨ho, hk, hr⟩ := h
  rcases ho.2 with ⟨rfl, hn⟩ | ⟨g, cap, cur, rfl, hbg, hgg, hnc, hcm, _, _⟩
  · exact ⟨none, 0, by rw [hn], by rw [hn]; exact ⟨Nat.zero_le _, Nat.zero_le _, fun _ => rfl⟩, hr, fun i hi => by omega⟩
  · refine ⟨_, cap, rfl, ⟨hnc, hcm, fun h => by cases h⟩, hr, fun i hi => ⟨g, 0, rfl, hk g rfl, fun j hj => ?_⟩⟩
    rw [Nat.zero_add, own_cell ho j hj, map_int_at _ _ hj]

def RetRow (w : World) (xs : List Int) (e : Ending) (w' : World) : Prop := ∃ v, e = .returned v ∧ Rw w' w.heap.size w'.heap.size v xs ∧ Below w.heap.size w w'
def RetRowB (w : World) (xs : List Int) (b : Bool) (e : Ending) (w' : World) : Prop := ∃ v, e = .returned (.tuple #[v, .bool b]) ∧ Rw w' w.heap.size w'.heap.size v xs ∧ Below w.heap.size w w'

def Blk (w : World) (g : Nat) (xs : List Int) : Prop := w.heap[g]? = some (.cells (xs.map (Value.int .i64)).toArray 3 (0, 0))
theorem Blk.lt {w : World} {g : Nat} {xs : List Int} (h : Blk w g xs) : g < w.heap.size := (Array.getElem?_eq_some_iff.1 h).1
theorem Blk.cell {w : World} {g : Nat} {xs : List Int} (h : Blk w g xs) (j : Nat) (hj : j < xs.length) : w.cell? ⟨g, j, none⟩ = some (.int .i64 (el xs j)) := by
  unfold Blk at h
  have e : (xs.map (Value.int .i64)).toArray[j]? = some (.int .i64 (el xs j)) := by rw [List.getElem?_toArray, map_int_at _ _ hj]
  simp only [World.cell?, h]; exact e
theorem Blk.free {w : World} {g : Nat} {xs : List Int} (h : Blk w g xs) (j : Nat) : w.frozen? ⟨g, j, none⟩ = false := by
  unfold Blk at h; simp [World.frozen?, h]
theorem Blk.set {w : World} {g : Nat} {xs : List Int} (h : Blk w g xs) (j : Nat) (x : Int) : Blk (w.setCell ⟨g, j, none⟩ (.int .i64 x)) g (xs.set j x) := by
  unfold Blk at h ⊢
  simp only [World.setCell, Array.getElem?_modify, h]
  simp [List.map_set]
theorem Blk.below {w w' : World} {g B : Nat} {xs : List Int} (h : Blk w g xs) (hb : Below B w w') (hg : g < B) : Blk w' g xs := (hb.block g hg).trans h
theorem Blk.chg {w w' : World} {g lo hi : Nat} {xs : List Int} (h : Blk w g xs) (hb : Chg lo hi w w') (hg : g < lo ∨ hi ≤ g) : Blk w' g xs := (hb.block g h.lt (by omega)).trans h
theorem Blk.drewN {w : World} {g : Nat} {xs : List Int} (h : Blk w g xs) (n : Nat) : Blk (w.drewN n) g xs := h
theorem Blk.own {w : World} {g lo : Nat} {xs : List Int} (h : Blk w g xs) (hl : lo ≤ g) (hm : xs.length ≤ maxLen) : w.ownsRow lo 3 1 (.slice (some ⟨g, 0, none⟩) xs.length xs.length) xs.length (xs.map (Value.int .i64)) :=
  ⟨by simp, .inr ⟨g, xs.length, _, rfl, hl, h, Nat.le_refl _, hm, by simp, by simp only [Nat.mul_one]; exact List.take_of_length_le (by simp)⟩⟩
theorem Blk.rw {w : World} {g lo hi : Nat} {xs : List Int} (h : Blk w g xs) (hl : lo ≤ g) (hh : g < hi) (hm : xs.length ≤ maxLen) (hr : R64 xs) : Rw w lo hi (.slice (some ⟨g, 0, none⟩) xs.length xs.length) xs :=
  ⟨h.own hl hm, fun k hk => by simp [Value.ownBlock] at hk; omega, hr⟩
theorem Blk.isI {w : World} {g hi : Nat} {xs : List Int} (h : Blk w g xs) (hh : g < hi) (hm : xs.length ≤ maxLen) (hr : R64 xs) : IsI w hi (.slice (some ⟨g, 0, none⟩) xs.length xs.length) xs :=
  (h.rw (Nat.zero_le _) hh hm hr).isI
theorem Blk.new {w : World} {c : Array Value} {xs : List Int} (h : c = (xs.map (Value.int .i64)).toArray) : Blk (w.alloc (.cells c 3)) w.heap.size xs := by
  subst h; exact heap_alloc_new w _
theorem Blk.alloc {w : World} {g : Nat} {xs : List Int} (h : Blk w g xs) (o : Obj) : Blk (w.alloc o) g xs := by
  unfold Blk; rw [Below.heap_alloc w o _ h.lt]; exact h
theorem made_zero (n : Nat) : madeCells #[Value.int .i64 0] n = ((List.replicate n (0 : Int)).map (Value.int .i64)).toArray := by
  apply Array.ext'
  rw [toList_madeCells_one]; simp

theorem row_cell {w : World} {g : Nat} {cur : Array Value} {e : TypeId} (h : w.heap[g]? = some (.cells cur e (0, 0))) (j : Nat) : w.cell? ⟨g, j, none⟩ = cur[j]? := by
  simp [World.cell?, h]
theorem row_free {w : World} {g : Nat} {cur : Array Value} {e : TypeId} (h : w.heap[g]? = some (.cells cur e (0, 0))) (j : Nat) : w.frozen? ⟨g, j, none⟩ = false := by
  simp [World.frozen?, h]
theorem row_set {w : World} {g : Nat} {cur : Array Value} {e : TypeId} (h : w.heap[g]? = some (.cells cur e (0, 0))) (j : Nat) (u : Value) :
    (w.setCell ⟨g, j, none⟩ u).heap[g]? = some (.cells (cur.setIfInBounds j u) e (0, 0)) := by
  simp only [World.setCell, Array.getElem?_modify, h]; simp
theorem own_of_cells {w : World} {lo g n cap : Nat} {cur : Array Value} {e : TypeId} {xs : List Value} (hg : w.heap[g]? = some (.cells cur e (0, 0))) (hl : lo ≤ g) (hn : n ≤ cap) (hm : cap ≤ maxLen)
    (hs : cur.size = cap) (hx : xs.length = n) (h : ∀ i, i < n → cur[i]? = xs[i]?) : w.ownsRow lo e 1 (.slice (some ⟨g, 0, none⟩) n cap) n xs := by
  refine ⟨by omega, .inr ⟨g, cap, cur, rfl, hl, hg, hn, hm, by omega, ?_⟩⟩
  apply List.ext_getElem?
  intro i
  rw [List.getElem?_take, Nat.mul_one]
  split
  · rename_i hi; rw [Array.getElem?_toList]; exact h i hi
  · rename_i hi; rw [List.getElem?_eq_none (by omega)]

theorem mk_ints {P : Program} {T : TypeId} (hT : P.underlying T = some (.slice 3)) (h : (P.info? 3).map (fun i => (i.zero, i.size, i.bytes)) = some (some (.int .i64 0), 1, 8)) (n : Nat) (hn : n ≤ 1099511627776) (W : World) :
    (Instr.makeSlice T (.int .i64 n) (.int .i64 n)).run P W = .ok (.slice (some ⟨W.heap.size, 0, none⟩) n n) (W.alloc (.cells (madeCells #[.int .i64 0] n) 3)) := by
  obtain ⟨i0, hi, hz0, hz1, hz2⟩ := info_parts h
  have h := run_make (P := P) W T 3 i0 _ hT hi hz0 .i64 .i64 n n (by omega) (by omega) (by rw [hz2]; omega) (by omega)
  simpa [hz1, Value.cells] using h

theorem cell_other {w : World} {g j b o : Nat} {u v : Value} (h : ¬ b = g) (hc : w.cell? ⟨b, o, none⟩ = some v) : (w.setCell ⟨g, j, none⟩ u).cell? ⟨b, o, none⟩ = some v :=
  (World.cell?_of_block (w := w) (a := ⟨b, o, none⟩) (Below.heap_setCell w ⟨g, j, none⟩ u b h)).trans hc

theorem cell_other_d {w : World} {g j b o : Nat} {u v : Value} (h : ¬ b = g) (hc : w.cell? ⟨b, o, none⟩ = some v) : (w.setCell ⟨g, j, none⟩ u).drew.cell? ⟨b, o, none⟩ = some v := cell_other (j := j) (u := u) h hc

section
variable {P : Program}
theorem wpList_app {ops : Array Oper} {rest : List Oper} {o : Oper} {a : Act} {Q : Exit → Act → World → Prop} {w : World} (hgd : o.guard = none) (s x : Operand) (t : TypeId)
    (ho : o.op = .call { callee := .builtin .append, args := #[s, x], argTypes := #[t, t] })
    (base : Nat) (e : TypeId) (i : TypeInfo) (z : Value) (size bytes : Nat) (ht : P.underlying t = some (.slice e)) (hi : P.info? e = some i) (hz : i.zero = some z)
    (hsize : i.size = size) (hby : i.bytes = bytes) (hzs : z.cells.size = size) (hsz : 0 < size)
    (v : Value) (n : Nat) (xs : List Value) (hs : a.eval s = v) (hown : w.ownsRow base e size v n xs)
    (news : List Value) (hx : a.eval x = .slice (some ⟨w.heap.size, 0, none⟩) 1 1) (hl : news.length = size) (h1 : ∀ u ∈ news, u.oneCell' = true)
    (hn : n ≤ 1099511627776) (hb : bytes ≤ 64) (hbase : base ≤ w.heap.size)
    (h : ∀ v' w', w'.ownsRow base e size v' (n + 1) (xs ++ news) → Below base w w' → wpList P ops Q rest (a.put o.dst v') w') :
    wpList P ops Q (o :: rest) a (w.alloc (.cells news.toArray e)) := by
  refine wpList_append_own _ hgd s x t ho base e i z size bytes ht hi hz hsize hby hzs hsz v n xs hs (hown.alloc _) ⟨w.heap.size, 0, none⟩ 1 1 news hx (by omega) ?_ h1 ?_ ?_ ?_ ?_
  · intro j u hu
    have hadd : (⟨w.heap.size, 0, none⟩ : Addr).add j = ⟨w.heap.size, j, none⟩ := by unfold Addr.add; split <;> simp_all
    rw [hadd, World.cell?_alloc_at _ _ _ _ rfl, List.getElem?_toArray]; exact hu
  · unfold maxLen; omega
  · exact Nat.le_trans (Nat.mul_le_mul (show n + 1 ≤ 1099511627776 + 1 by omega) hb) (by omega)
  · simp; omega
  · intro v' w' hown' hg _
    refine h v' w' hown' ?_
    exact ((Below.refl _ _).alloc hbase _).grown hg (by simp; omega) (fun k hk => (hown.lt k hk).1)
end
def OwnI (w : World) (B : Nat) (v : Value) (xs : List Int) : Prop := w.ownsRow B 3 1 v xs.length (xs.map (Value.int .i64))
theorem OwnI.nil (w : World) (B : Nat) : OwnI w B (.slice none 0 0) [] := World.ownsRow_nil _ _ _ _
theorem OwnI.rw {w : World} {B hi : Nat} {v : Value} {xs : List Int} (h : OwnI w B v xs) (hr : R64 xs) (hh : w.heap.size ≤ hi) : Rw w B hi v xs := Rw.of_own h hr hh
theorem OwnI.below {w w' : World} {B B' : Nat} {v : Value} {xs : List Int} (h : OwnI w B v xs) (hb : Below B' w w') (hs : w.heap.size ≤ B') : OwnI w' B v xs :=
  ownsRow_of_block h fun k hk => hb.block k (by have := (h.lt k hk).2; omega)
theorem OwnI.drewN {w : World} {B : Nat} {v : Value} {xs : List Int} (h : OwnI w B v xs) (n : Nat) : OwnI (w.drewN n) B v xs := h
theorem OwnI.isI {w : World} {B : Nat} {v : Value} {xs : List Int} (h : OwnI w B v xs) (hr : R64 xs) : IsI w w.heap.size v xs := (h.rw hr (Nat.le_refl _)).isI
theorem OwnI.empty (w : World) {B : Nat} {c : Array Value} (hB : B ≤ w.heap.size) (hc : c = #[]) : OwnI (w.alloc (.cells c 3)) B (.slice (some ⟨w.heap.size, 0, none⟩) 0 0) [] := by
  subst hc; exact World.ownsRow_made w #[] 0 hB (by unfold maxLen; omega) (by simp)
theorem wpList_appI {P : Program} {ops : Array Oper} {rest : List Oper} {o : Oper} {a : Act} {Q : Exit → Act → World → Prop} {w : World} {y : Int} (hgd : o.guard = none) (s x : Operand) (T : TypeId)
    (ho : o.op = .call { callee := .builtin .append, args := #[s, x], argTypes := #[T, T] }) (hT : P.underlying T = some (.slice 3))
    (hinf : (P.info? 3).map (fun i => (i.zero, i.size, i.bytes)) = some (some (.int .i64 0), 1, 8))
    (B : Nat) (v : Value) (xs : List Int) (hs : a.eval s = v) (hx : a.eval x = .slice (some ⟨w.heap.size, 0, none⟩) 1 1) (hown : OwnI w B v xs) (hn : xs.length ≤ 1099511627776) (hbase : B ≤ w.heap.size)
    (h : ∀ v' w', OwnI w' B v' (xs ++ [y]) → Below B w w' → wpList P ops Q rest (a.put o.dst v') w') :
    wpList P ops Q (o :: rest) a (w.alloc (.cells #[.int .i64 y] 3)) := by
  obtain ⟨i0, hi, hz0, hz1, hz2⟩ := info_parts hinf
  refine wpList_app (news := [.int .i64 y]) hgd s x T ho B 3 i0 _ 1 8 hT hi hz0 hz1 hz2 rfl (by omega) v _ _ hs hown hx rfl (by simp [Value.oneCell']) hn (by omega) hbase fun v' w' h1 h2 => h v' w' ?_ h2
  unfold OwnI
  simpa using h1
theorem RetRow.e0 (w : World) {c : Array Value} (hc : c = #[]) : Rw (w.alloc (.cells c 3)) w.heap.size (w.alloc (.cells c 3)).heap.size (.slice (some ⟨w.heap.size, 0, none⟩) 0 0) [] :=
  (OwnI.empty w (Nat.le_refl _) hc).rw R64.nil (Nat.le_refl _)
theorem RetRow.e1 (w : World) (o : Obj) : Below w.heap.size w (w.alloc o) := (Below.refl _ _).alloc (Nat.le_refl _) _
end Go.Proofs.YtlinkeemccnfmaaGreatDoor
