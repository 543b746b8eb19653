/- What is proved here: contract of impl's CheapestPlan. -/
import Derived.Test.YtkiebajggombiaaPlnC
set_option linter.unusedVariables false
set_option linter.unusedSimpArgs false
namespace Go.Proofs.Ytkiebajggombiaa
open Go.RowKit

/-! ### plain facts -/
theorem ctH_suf {xs : List Int} {d s c : Int} {k : Nat} (hk : k ≤ xs.length) : el (bst xs d s c k) 0 = ctH (xs.drop (xs.length - k)) d s c := by
  unfold ctH
  rw [List.length_drop, bst_drop _ (by omega), show xs.length - (xs.length - k) = k by omega]
theorem bst_hd {xs : List Int} {d s c : Int} {k : Nat} (hk : k + 1 ≤ xs.length) : bst xs d s c (k + 1) = ctH (xs.drop (xs.length - (k + 1))) d s c :: bst xs d s c k := by
  have h := ctH_suf (xs := xs) (d := d) (s := s) (c := c) hk
  rw [← h]; rfl
theorem bst_cell {xs zs : List Int} {d s c : Int} {p q : Nat} (hz : zs.drop (p + 1) = bst xs d s c (xs.length - (p + 1))) (h : p + (q + 1) ≤ xs.length) : el zs (p + (q + 1)) = ctH ((xs.drop p).drop (q + 1)) d s c := by
  have e := el_of_drop hz q
  rw [show p + 1 + q = p + (q + 1) by omega, bst_el _ _ (by omega), ctH_suf (by omega), show xs.length - (xs.length - (p + 1) - q) = p + (q + 1) by omega] at e
  rw [e, List.drop_drop]
theorem bst_cellK {xs zs : List Int} {d s c : Int} {p q k : Nat} (hk : k = q + 1) (hz : zs.drop (p + 1) = bst xs d s c (xs.length - (p + 1))) (h : p + k ≤ xs.length) : el zs (p + k) = ctH ((xs.drop p).drop k) d s c := by
  subst hk; exact bst_cell hz h
theorem ChI.skipK {ys : List Int} {d s c l : Int} {k q b : Nat} (hk : k = q + 1) (h : ChI ys d s c k b l) (hr : rnOk (ys.take k) d = false) : ChI ys d s c q b l := by subst hk; exact h.skip hr
theorem ChI.takeK {ys : List Int} {d s c l x : Int} {k q b : Nat} (hk : k = q + 1) (h : ChI ys d s c k b l) (hl : k ≤ ys.length) (hr : rnOk (ys.take k) d = true) (hx : x = chC ys d s c k) (ht : b = 0 ∨ x < l) : ChI ys d s c q k x := by subst hk; exact h.take hl hr hx ht
theorem ChI.leaveK {ys : List Int} {d s c l x : Int} {k q b : Nat} (hk : k = q + 1) (h : ChI ys d s c k b l) (hx : x = chC ys d s c k) (ht : b ≠ 0 ∧ l ≤ x) : ChI ys d s c q b l := by subst hk; exact h.leave hx ht
/-- What the cells of the best segments hold when the places from m on are done. -/
def cfC (xs : List Int) (d s c : Int) (m : Nat) : Nat → Int := fun i => if i < m then 0 else ((chN (xs.drop i) d s c : Nat) : Int)
def cfP (xs : List Int) (d s c : Int) (m : Nat) : Nat → List Int := fun i => if i < m then [] else rnL ((xs.drop i).take (chN (xs.drop i) d s c)) d
/-- The polynomial of a best segment that is perhaps none. -/
def cfB (xs : List Int) (d : Int) (p b : Nat) : List Int := if b = 0 then [] else rnL ((xs.drop p).take b) d
theorem cfB_yes {xs : List Int} {d : Int} {p k : Nat} (h : 0 < k) : cfB xs d p k = rnL ((xs.drop p).take k) d := by unfold cfB; rw [if_neg (by omega)]
theorem madeSeg_at {n i : Nat} (h : i < n) : (madeCells #[Value.int .i64 0, .slice none 0 0] (n * 2))[i * 2]? = some (.int .i64 0) ∧ (madeCells #[Value.int .i64 0, .slice none 0 0] (n * 2))[i * 2 + 1]? = some (.slice none 0 0) := by
  unfold madeCells
  constructor
  · simp [show i * 2 < n * 2 by omega]
  · simp [show i * 2 + 1 < n * 2 by omega, show (i * 2 + 1) % 2 = 1 by omega]
theorem SgR.zeros (w : World) (lo hi n : Nat) {cur : Array Value} (hc : ∀ i, i < n → cur[i * 2]? = some (.int .i64 0) ∧ cur[i * 2 + 1]? = some (.slice none 0 0)) : SgR w lo hi n cur (fun _ => 0) (fun _ => []) :=
  ⟨fun _ => .slice none 0 0, fun i hi => ⟨(hc i hi).1, (hc i hi).2, Rw.nil _ _ _, (show I64 (0 : Int) by constructor <;> omega)⟩, fun i j _ _ _ k hk => by simp [Value.ownBlock] at hk⟩
/-- Another segment is put in place, whose polynomial lies past all others. -/
theorem SgR.put {w : World} {lo hi hi' n j : Nat} {cur : Array Value} {C : Nat → Int} {P : Nat → List Int} {x : Int} {u : Value} {ys : List Int} (h : SgR w lo hi n cur C P) (hj : j < n) (hs : cur.size = n * 2)
    (hu : Rw w hi hi' u ys) (hx : I64 x) (hl : lo ≤ hi) (hh : hi ≤ hi') : SgR w lo hi' n ((cur.setIfInBounds (j * 2) (.int .i64 x)).setIfInBounds (j * 2 + 1) u) (upd C j x) (upd P j ys) := by
  obtain ⟨U, h1, h2⟩ := h
  refine ⟨upd U j u, fun i hi => ?_, fun i k hi hk hik b hb hb2 => ?_⟩
  · by_cases e : i = j
    · subst e
      simp only [upd, if_true]
      exact ⟨by rw [getSet (by omega), getSetS (by omega)], by rw [getSetS (by simp; omega)], hu.down hl, hx⟩
    · simp only [upd, if_neg e]
      obtain ⟨a0, a1, a2, a3⟩ := h1 i hi
      exact ⟨by rw [getSet (by omega), getSet (by omega)]; exact a0, by rw [getSet (by omega), getSet (by omega)]; exact a1, a2.up hh, a3⟩
  · by_cases e1 : i = j
    · subst e1
      have e2 : ¬ k = i := fun e => hik e.symm
      simp only [upd, if_true] at hb
      simp only [upd, if_neg e2] at hb2
      have := (hu.1.lt b hb).1
      have := (h1 k hk).2.2.1.2.1 b hb2
      omega
    · simp only [upd, if_neg e1] at hb
      by_cases e2 : k = j
      · subst e2
        simp only [upd, if_true] at hb2
        have := (hu.1.lt b hb2).1
        have := (h1 i hi).2.2.1.2.1 b hb
        omega
      · simp only [upd, if_neg e2] at hb2
        exact h2 i k hi hk hik b hb hb2
theorem cf_start {xs : List Int} {d s c : Int} {p : Nat} (i : Nat) : cfC xs d s c (p + 1) i = upd (cfC xs d s c (p + 1)) p ((0 : Nat) : Int) i ∧ cfP xs d s c (p + 1) i = upd (cfP xs d s c (p + 1)) p (cfB xs d p 0) i := by
  by_cases e : i = p
  · subst e; simp [upd, cfC, cfP, cfB]
  · simp [upd, e]
theorem cf_end {xs : List Int} {d s c : Int} {p : Nat} (hb : 1 ≤ chN (xs.drop p) d s c) (i : Nat) : upd (cfC xs d s c (p + 1)) p ((chN (xs.drop p) d s c : Nat) : Int) i = cfC xs d s c p i ∧ upd (cfP xs d s c (p + 1)) p (cfB xs d p (chN (xs.drop p) d s c)) i = cfP xs d s c p i := by
  by_cases e : i = p
  · subst e; simp [upd, cfC, cfP, cfB, show chN (xs.drop i) d s c ≠ 0 by omega]
  · simp only [upd, if_neg e, cfC, cfP]
    by_cases e2 : i < p
    · simp [e2, show i < p + 1 by omega]
    · simp [e2, show ¬ i < p + 1 by omega]
theorem upd_upd {α : Type} (f : Nat → α) (j : Nat) (x y : α) (i : Nat) : upd (upd f j x) j y i = upd f j y i := by
  by_cases e : i = j <;> simp [upd, e]
/-- The plan that is gathered: its polynomials are those of the best segments ahead of place f. -/
def OwnP (w : World) (B : Nat) (v : Value) (L : List (Int × List Int)) (U : Nat → Value) (P : Nat → List Int) (f : Nat) : Prop :=
  ∃ (vals : List Value) (ix : Nat → Nat), vals.length = L.length * 2 ∧ w.ownsRow B 36 2 v L.length vals ∧
    (∀ i, i < L.length → ix i < f ∧ vals[i * 2]? = some (.int .i64 (pC L i)) ∧ vals[i * 2 + 1]? = some (U (ix i)) ∧ pP L i = P (ix i) ∧ I64 (pC L i)) ∧ ∀ i j, i < L.length → j < L.length → i ≠ j → ix i ≠ ix j
theorem OwnP.nil (w : World) (B : Nat) (U : Nat → Value) (P : Nat → List Int) : OwnP w B (.slice none 0 0) [] U P 0 := ⟨[], fun _ => 0, rfl, World.ownsRow_nil _ _ _ _, fun i hi => by simp at hi, fun i j hi => by simp at hi⟩
theorem OwnP.snoc {w' : World} {B f f' : Nat} {v' : Value} {L : List (Int × List Int)} {U : Nat → Value} {P : Nat → List Int} {vals : List Value} {ix : Nat → Nat} {c : Int} {p : List Int} (h1 : vals.length = L.length * 2)
    (h2 : ∀ i, i < L.length → ix i < f ∧ vals[i * 2]? = some (.int .i64 (pC L i)) ∧ vals[i * 2 + 1]? = some (U (ix i)) ∧ pP L i = P (ix i) ∧ I64 (pC L i)) (h3 : ∀ i j, i < L.length → j < L.length → i ≠ j → ix i ≠ ix j)
    (ho : w'.ownsRow B 36 2 v' (L.length + 1) (vals ++ [.int .i64 c, U f])) (hp : p = P f) (hc : I64 c) (hf : f < f') : OwnP w' B v' (L ++ [(c, p)]) U P f' := by
  obtain ⟨e1, e2⟩ := p_app1 L c p
  refine ⟨vals ++ [.int .i64 c, U f], fun i => if i = L.length then f else ix i, by simp [h1]; omega, by simpa using ho, fun i hi => ?_, fun i j hi hj hij => ?_⟩
  · rw [List.length_append, List.length_singleton] at hi
    by_cases e : i = L.length
    · subst e
      simp only [if_true]
      refine ⟨hf, ?_, ?_, by rw [e2]; exact hp, by rw [e1]; exact hc⟩
      · rw [e1, List.getElem?_append_right (by omega), h1, Nat.sub_self]; rfl
      · rw [List.getElem?_append_right (by omega), h1, show L.length * 2 + 1 - L.length * 2 = 1 by omega]; rfl
    · simp only [if_neg e]
      obtain ⟨a0, a1, a2, a3, a4⟩ := h2 i (by omega)
      obtain ⟨b1, b2⟩ := p_appL (L := L) (M := [(c, p)]) (show i < L.length by omega)
      exact ⟨by omega, by rw [b1, List.getElem?_append_left (by omega)]; exact a1, by rw [List.getElem?_append_left (by omega)]; exact a2, by rw [b2]; exact a3, by rw [b1]; exact a4⟩
  · rw [List.length_append, List.length_singleton] at hi hj
    by_cases e : i = L.length
    · by_cases e3 : j = L.length
      · omega
      · simp only [if_pos e, if_neg e3]; have := (h2 j (by omega)).1; omega
    · by_cases e3 : j = L.length
      · simp only [if_neg e, if_pos e3]; have := (h2 i (by omega)).1; omega
      · simp only [if_neg e, if_neg e3]; exact h3 i j (by omega) (by omega) hij
theorem OwnP.rw {w : World} {B lo hi n f : Nat} {v : Value} {L : List (Int × List Int)} {cur : Array Value} {C : Nat → Int} {P : Nat → List Int} {U : Nat → Value} (h : OwnP w B v L U P f) (hf : f ≤ n)
    (h1 : ∀ i, i < n → cur[i * 2]? = some (.int .i64 (C i)) ∧ cur[i * 2 + 1]? = some (U i) ∧ Rw w lo B (U i) (P i) ∧ I64 (C i)) (h2 : ∀ i j, i < n → j < n → i ≠ j → ∀ k, (U i).ownBlock = some k → (U j).ownBlock ≠ some k)
    (hl : lo ≤ B) (hh : B ≤ hi) (hs : w.heap.size ≤ hi) : RwS w lo hi v L := by
  obtain ⟨vals, ix, g1, g2, g3, g4⟩ := h
  have hlt := g2.lt
  have hd := fun i (hi : i < L.length) => (g3 i hi).1
  rcases g2.2 with ⟨rfl, hn⟩ | ⟨g, cap, cur', rfl, hbg, hgg, hnc, hcm, hcs, hct⟩
  · exact .inl ⟨by simp only [hn], List.eq_nil_of_length_eq_zero hn⟩
  · have hat : ∀ i, i < L.length * 2 → cur'[i]? = vals[i]? := by
      intro i hi
      have e : vals[i]? = cur'.toList[i]? := by rw [← hct, List.getElem?_take, if_pos hi]
      rw [e, Array.getElem?_toList]
    refine .inr ⟨g, cap, cur', rfl, ⟨by omega, by have := (hlt g rfl).2; omega⟩, hgg, ⟨hnc, hcm⟩, hcs, fun i => U (ix i), fun i hi => ?_, fun i j hi hj hij k hk => ?_⟩
    · obtain ⟨a0, a1, a2, a3, a4⟩ := g3 i hi
      exact ⟨by rw [hat _ (by omega)]; exact a1, by rw [hat _ (by omega)]; exact a2, by rw [a3]; exact (h1 _ (by omega)).2.2.1.up hh, a4⟩
    · exact h2 (ix i) (ix j) (by have := hd i hi; omega) (by have := hd j hj; omega) (g4 i j hi hj hij) k hk
set_option maxRecDepth 100000 in
set_option maxHeartbeats 3200000 in
theorem c_iCheapestY (w : World) (v : Value) (xs : List Int) (hv : IsI w w.heap.size v xs) (dn : Nat) (s c : Int) (hS : SM xs = true) (hd : dn ≤ 6) (hs : 0 ≤ s ∧ s ≤ 1000) (hc : 0 ≤ c ∧ c ≤ 1000) :
    Calls Try.prog 24 #[v, .int .i64 dn, .int .i64 s, .int .i64 c] w (RetSB w (ck xs dn s c) true) := by
  have h60 := SM_iff.1 hS
  have h61 := h60.2.1
  have h62 := h60.1
  have HS := hid hS
  have HD := hid (show inB (dn : Int) 0 6 = true from inB_yes (by omega) (by omega))
  have HC1 := hid (show inB s 0 1000 = true from inB_yes hs.1 hs.2)
  have HC2 := hid (show inB c 0 1000 = true from inB_yes hc.1 hc.2)
  have HSTEP := hid (fun f hf L h => @ck_step xs dn f s c hS hd hs hc hf L h)
  have HSD := hid (fun f (hf : f < xs.length) => SM_drop hS hf)
  have HCN := hid (fun f (hf : f < xs.length) => chN_spec (SM_drop hS hf) hd hs hc)
  have HCB := hid (fun f n (hf : f < xs.length) => chC_bd hd (SM_drop hS hf) hs hc n)
  have HDONE := hid (fun f (hf : f < xs.length) b l h => @ChI.done (xs.drop f) (SM_drop hS hf) dn hd s c l b hs hc h)
  have HHB := hid (fun ys => @ctH_bd ys dn s c hs.1 hc.1)
  obtain ⟨a0, cap0, hva⟩ : ∃ a cap, v = .slice a xs.length cap := ⟨_, _, hv.choose_spec.choose_spec.1⟩
  subst hva
  obtain ⟨a', cap', hva, hmc, -, hcl⟩ := id hv
  simp only [Value.slice.injEq, true_and] at hva
  obtain ⟨rfl, rfl⟩ := hva
  obtain ⟨b0, off, rfl, hb, -⟩ := hcl 0 (by omega)
  unfold maxLen at hmc
  obtain ⟨hmc1, hmc2, -⟩ := hmc
  obtain ⟨s0, s1⟩ := hs
  obtain ⟨c0, c1⟩ := hc
  have HM := hid (made_zero (xs.length + 1))
  have hmk := mk_ints Try.underlying23 Try.infoInt (xs.length + 1) (by omega)
  generalize madeCells #[Value.int .i64 0] (xs.length + 1) = mc at *
  have hmk' : ∀ (W : World), (Instr.makeSlice 23 (.int .i64 ((xs.length : Int) + 1)) (.int .i64 ((xs.length : Int) + 1))).run Try.prog W = .ok (.slice (some ⟨W.heap.size, 0, none⟩) (xs.length + 1) (xs.length + 1)) (W.alloc (.cells mc 3)) := by
    intro W
    rw [show (xs.length : Int) + 1 = ((xs.length + 1 : Nat) : Int) by omega]; exact hmk W
  have hmk2 := mk_segs xs.length (by omega)
  have HM2 := hid (fun i (h : i < xs.length) => madeSeg_at h)
  have HMS := hid (show (madeCells #[Value.int .i64 0, .slice none 0 0] (xs.length * 2)).size = xs.length * 2 from size_madeCells _ _)
  generalize madeCells #[Value.int .i64 0, .slice none 0 0] (xs.length * 2) = mc2 at *
  obtain ⟨wA, hwA⟩ : ∃ x, x = (w.alloc (.cells mc 3)).alloc (.cells mc2 36) := ⟨_, rfl⟩
  have hw0 : Wc wA w.heap.size 0 (xs.length + 1) (List.replicate (xs.length + 1) 0) := by
    have := (Blk.new (w := w) HM.out).wc (by simp; unfold maxLen; omega) (R64.of_el fun k hk => by simp at hk; simp [el, List.getElem?_replicate, hk])
    rw [hwA]
    simpa using this.below ((Below.refl _ _).alloc (Nat.le_refl _) _) (by simp)
  have hg0 : wA.heap[w.heap.size + 1]? = some (.cells mc2 36 (0, 0)) := by
    rw [hwA, ← show (w.alloc (.cells mc 3)).heap.size = w.heap.size + 1 by simp]; exact heap_alloc_new _ _
  have bA : Below w.heap.size w wA := by rw [hwA]; exact (RetRow.e1 w _).alloc (by simp) _
  have hsA : wA.heap.size = w.heap.size + 1 + 1 := by rw [hwA]; simp
  have hr0 : SgR wA (w.heap.size + 1 + 1) wA.heap.size xs.length mc2 (cfC xs dn s c xs.length) (cfP xs dn s c xs.length) :=
    (SgR.zeros wA _ _ xs.length HM2.out).congr fun i hi => by simp [cfC, cfP, hi]
  have HG0 := hid hg0
  have HR0 := hid hr0
  clear hmk hS h60 hcl hg0 hr0
  go_enter Try.func24, Try.ntmps24
  go_wp2_with fail
  refine (c_smallTable _ xs _ _ hv).mono ?_
  rw [HS.out]
  rintro e wx ⟨rfl, rfl⟩
  go_wp2_with fail
  refine (c_degreeValid _ _).mono ?_
  rw [HD.out]
  rintro e wx ⟨rfl, rfl⟩
  go_wp2_with fail
  refine (c_costValid _ _).mono ?_
  rw [HC1.out]
  rintro e wx ⟨rfl, rfl⟩
  go_wp2_with fail
  refine (c_costValid _ _).mono ?_
  rw [HC2.out]
  rintro e wx ⟨rfl, rfl⟩
  go_wp2
  rw [← hwA]
  clear hmk' hmk2 hwA
  go_loopw [12] (fun i wr => ∃ (z : Int) (m : Nat) (zs : List Int) (cur : Array Value), i = .int .i64 z ∧ z = (m : Int) - 1 ∧ m ≤ xs.length ∧ Hid (zs.length = xs.length + 1) ∧ Hid (zs.drop m = bst xs dn s c (xs.length - m)) ∧ Wc wr w.heap.size 0 (xs.length + 1) zs ∧
    Hid (wr.heap[w.heap.size + 1]? = some (.cells cur 36 (0, 0))) ∧ Hid (cur.size = xs.length * 2) ∧ Hid (SgR wr (w.heap.size + 1 + 1) wr.heap.size xs.length cur (cfC xs dn s c m) (cfP xs dn s c m)) ∧ Below w.heap.size w wr) (fun i _ => (intOf i + 1).toNat)
  case atStart => exact ⟨_, xs.length, List.replicate (xs.length + 1) 0, mc2, rfl, rfl, Nat.le_refl _, by show _ = _; simp, by show _ = _; rw [Nat.sub_self, List.drop_replicate, show xs.length + 1 - xs.length = 1 by omega]; rfl, hw0, HG0.out, HMS, HR0, bA⟩
  case round =>
    clear hw0 bA hsA HG0 HR0
    obtain ⟨z, m, zs, cur, rfl, hz, hm2, HZ, HDR, hw, HG, HCS, HR, hbel⟩ := hrel
    have hbs := hbel.size
    by_cases hp : 0 < m
    · obtain ⟨p, rfl⟩ : ∃ p, m = p + 1 := ⟨m - 1, by omega⟩
      obtain rfl : z = (p : Int) := by omega
      have hyl : (xs.drop p).length = xs.length - p := List.length_drop
      have HYL := hid hyl
      have k0 : (0 : Int) ≤ (p : Int) := by omega
      have k1 : (p : Int) < (xs.length : Int) + 1 := by omega
      have k2 : p < xs.length + 1 := by omega
      have k3 : (p : Int) < xs.length := by omega
      have hpl : p < xs.length := by omega
      clear hz hp hyl
      go_wp2
      go_loopw [13] (fun n' wr' => ∃ (k b : Nat) (zs : List Int) (cur : Array Value), k + p ≤ xs.length ∧ n' = .int .i64 k ∧ Hid (ChI (xs.drop p) dn s c k b (el zs p)) ∧ b ≤ xs.length ∧ Hid (zs.length = xs.length + 1) ∧ Hid (zs.drop (p + 1) = bst xs dn s c (xs.length - (p + 1))) ∧ Wc wr' w.heap.size 0 (xs.length + 1) zs ∧
        Hid (wr'.heap[w.heap.size + 1]? = some (.cells cur 36 (0, 0))) ∧ Hid (cur.size = xs.length * 2) ∧ Hid (SgR wr' (w.heap.size + 1 + 1) wr'.heap.size xs.length cur (upd (cfC xs dn s c (p + 1)) p (b : Int)) (upd (cfP xs dn s c (p + 1)) p (cfB xs dn p b))) ∧ Below w.heap.size w wr') (fun n' _ => (intOf n').toNat)
      case atStart => exact ⟨xs.length - p, 0, zs, cur, by omega, by go_num, by rw [← HYL.out]; exact ChI.start _ _ _ _ _, Nat.zero_le _, HZ, HDR, hw, HG, HCS, HR.out.congr fun i _ => cf_start i, hbel⟩
      case round =>
        clear hw hbel hbs HZ HDR HG HCS HR
        clear zs cur
        obtain ⟨k, b, zs, cur, hk, rfl, HI, hbx, HZ, HDR, hw, HG, HCS, HR, hbel⟩ := hrel
        have hbs := hbel.size
        have hpz : p < zs.length := by rw [HZ.out]; omega
        by_cases hlt : 0 < k
        · obtain ⟨q, hq⟩ : ∃ q, k = q + 1 := ⟨k - 1, by omega⟩
          have HQ := hid hq
          have hgl : w.heap.size + 1 < wr.heap.size := (Array.getElem?_eq_some_iff.1 HG.out).1
          have kq : (k : Int) - 1 = (q : Int) := by omega
          have HKQ := hid kq
          clear hq kq
          have q0 : (0 : Int) < (k : Int) := by omega
          have q1 : (p : Int) + (k : Int) ≤ xs.length := by omega
          have q2 : (p : Int) + (k : Int) ≤ cap0 := by omega
          have q3 : (p : Int) < cap0 := by omega
          have q4 : ¬ cap0 = p := by omega
          have hsub := ((hv.below hbel (Nat.le_refl _)).sub (lo := p) (m := k) (by omega)).up hbs
          by_cases hr : rnOk ((xs.drop p).take k) dn = true
          · have HRN := hid hr
            clear hr
            go_wp2_with fail
            refine (c_runOf _ _ _ hsub dn).mono ?_
            rw [HRN.out]
            rintro e w1 ⟨v1, rfl, r1, b1⟩
            have s1' := b1.size
            have hL := rnL_len (ys := (xs.drop p).take k) (d := dn)
            obtain ⟨a1, c1', hv1⟩ := r1.len
            subst hv1
            have hw1 := hw.below b1 hw.lt
            have HG1 := hid ((b1.block (w.heap.size + 1) (Array.getElem?_eq_some_iff.1 HG.out).1).trans HG.out)
            have HR1 := hid (HR.out.below b1 (Nat.le_refl _))
            have bb1 := hbel.trans (b1.mono hbs)
            have HCEL := hid (bst_cellK HQ.out HDR.out (show p + k ≤ xs.length by omega))
            have HCC := hid (show chC (xs.drop p) dn s c k = s + c * ((rnL ((xs.drop p).take k) dn).length : Nat) + el zs (p + k) by rw [HCEL.out]; rfl)
            have hE0 := HHB.out ((xs.drop p).drop k)
            rw [← HCEL.out] at hE0
            have hSB := (HCB.out p k hpl).2
            rw [HCC.out] at hSB
            have g0 := hw1.cell0 (p + k) (by rw [HZ.out]; omega)
            have g1 := hw1.cell0 p hpz
            have f1 := hw1.free p
            have hlz := hw1.range.at p
            obtain ⟨UU, hUU, -⟩ := id HR1.out
            obtain ⟨z0, z1, -, -⟩ := hUU p hpl
            have g2 : w1.cell? ⟨w.heap.size + 1, p * 2, none⟩ = some (.int .i64 (b : Int)) := by rw [row_cell HG1.out, z0]; simp [upd]
            clear hUU z0 z1 hsub hw hbel b1 HR HG
            have HTK := hid (fun x (hx : x = chC (xs.drop p) dn s c k) (ht : b = 0 ∨ x < el zs p) => ChI.takeK HQ.out HI.out (by rw [HYL.out]; omega) HRN.out hx ht)
            have HLV := hid (fun x (hx : x = chC (xs.drop p) dn s c k) (ht : b ≠ 0 ∧ el zs p ≤ x) => ChI.leaveK HQ.out HI.out hx ht)
            rw [HCC.out] at HTK HLV
            have HFB := hid (cfB_yes (xs := xs) (d := dn) (p := p) hlt)
            generalize hps : rnL ((xs.drop p).take k) dn = ps at *
            clear hps HCC HCEL
            have hP0 : 0 ≤ c * (ps.length : Int) := Int.mul_nonneg c0 (by omega)
            have hP1 : c * (ps.length : Int) ≤ 1000 * 7 := Int.mul_le_mul c1 (by omega) (by omega) (by omega)
            generalize hE : el zs (p + k) = E at *
            clear hE
            have q5 : ((p : Int) + (k : Int)).toNat = p + k := by omega
            have q6 : (0 : Int) ≤ (p : Int) + (k : Int) := by omega
            have q7 : (p : Int) + (k : Int) < (xs.length : Int) + 1 := by omega
            have q8 : p + k < xs.length + 1 := by omega
            obtain ⟨S, hSS⟩ : ∃ S, s + c * (ps.length : Int) + E = S := ⟨_, rfl⟩
            have hS0 : 0 ≤ S ∧ S ≤ 500000 := by omega
            rw [hSS] at HTK HLV
            obtain ⟨hS0, hS1⟩ := hS0
            have hwS := hw1.set0 hpz (x := S) (by omega)
            have HGS := hid (show (w1.setCell ⟨w.heap.size, p, none⟩ (.int .i64 S)).heap[w.heap.size + 1]? = _ from (Below.heap_setCell _ _ _ _ (by simp)).trans HG1.out)
            have hcs2 : p * 2 + 1 < cur.size := by rw [HCS.out]; omega
            have d0 : (w1.setCell ⟨w.heap.size, p, none⟩ (.int .i64 S)).cell? ⟨w.heap.size + 1, p * 2, none⟩ = some (cur[p * 2]'(by omega)) := by rw [row_cell HGS.out, Array.getElem?_eq_getElem (by omega)]
            have d1 : (w1.setCell ⟨w.heap.size, p, none⟩ (.int .i64 S)).cell? ⟨w.heap.size + 1, p * 2 + 1, none⟩ = some (cur[p * 2 + 1]'hcs2) := by rw [row_cell HGS.out, Array.getElem?_eq_getElem hcs2]
            have df0 := row_free HGS.out (p * 2)
            have df1 := row_free HGS.out (p * 2 + 1)
            by_cases hT : b = 0 ∨ S < el zs p
            · have HI3 := hid (HTK.out S rfl hT)
              clear HTK HLV HI
              have hbz : ((b : Int) == 0) = true ∨ ((b : Int) == 0) = false ∧ S < el zs p := by
                by_cases e : b = 0
                · left; simp [e]
                · right; refine ⟨by simp; omega, hT.resolve_left e⟩
              clear hT
              have HREL := hid (fun (W : World) (hW : W = ((w1.setCell ⟨w.heap.size, p, none⟩ (.int .i64 S)).setCell ⟨w.heap.size + 1, p * 2, none⟩ (.int .i64 (k : Int))).setCell ⟨w.heap.size + 1, p * 2 + 1, none⟩ (.slice a1 ps.length c1')) => (show ∃ (k b : Nat) (zs : List Int) (cur : Array Value), k + p ≤ xs.length ∧ (Value.int .i64 (q : Int)) = .int .i64 k ∧ Hid (ChI (xs.drop p) dn s c k b (el zs p)) ∧ b ≤ xs.length ∧ Hid (zs.length = xs.length + 1) ∧ Hid (zs.drop (p + 1) = bst xs dn s c (xs.length - (p + 1))) ∧ Wc W w.heap.size 0 (xs.length + 1) zs ∧
                  Hid (W.heap[w.heap.size + 1]? = some (.cells cur 36 (0, 0))) ∧ Hid (cur.size = xs.length * 2) ∧ Hid (SgR W (w.heap.size + 1 + 1) W.heap.size xs.length cur (upd (cfC xs dn s c (p + 1)) p (b : Int)) (upd (cfP xs dn s c (p + 1)) p (cfB xs dn p b))) ∧ Below w.heap.size w W by
                subst hW
                have ch1 := seg_chg w1 w.heap.size p (.int .i64 S)
                have ch2 := seg_chg (w1.setCell ⟨w.heap.size, p, none⟩ (.int .i64 S)) (w.heap.size + 1) (p * 2) (.int .i64 (k : Int))
                have ch3 := seg_chg ((w1.setCell ⟨w.heap.size, p, none⟩ (.int .i64 S)).setCell ⟨w.heap.size + 1, p * 2, none⟩ (.int .i64 (k : Int))) (w.heap.size + 1) (p * 2 + 1) (.slice a1 ps.length c1')
                refine ⟨q, k, zs.set p S, _, by have := HQ.out; omega, rfl, by rw [el_set_same hpz]; exact HI3.out, by omega, by show _ = _; simpa using HZ.out, by show _ = _; rw [drop_set_low (by omega)]; exact HDR.out, (hwS.chg ch2 (by omega)).chg ch3 (by omega), row_set (row_set HGS.out _ _) _ _, by show _ = _; simpa using HCS.out, ?_, ((bb1.setCell (p := ⟨w.heap.size, p, none⟩) (Nat.le_refl _) _).setCell (p := ⟨w.heap.size + 1, p * 2, none⟩) (Nat.le_succ _) _).setCell (p := ⟨w.heap.size + 1, p * 2 + 1, none⟩) (Nat.le_succ _) _⟩
                have hRR := ((HR1.out.keep ch1 (.inr (by omega))).keep ch2 (.inr (by omega))).keep ch3 (.inr (by omega))
                have hru := ((r1.keep ch1 (.inr (by omega))).keep ch2 (.inr (by omega))).keep ch3 (.inr (by omega))
                refine ((hRR.put hpl HCS.out hru (x := (k : Int)) (by constructor <;> omega) (by omega) s1').congr fun i _ => ?_).up (by simp)
                rw [upd_upd, upd_upd, HFB.out]; exact ⟨rfl, rfl⟩))
              rcases hbz with hbz | ⟨hbz, hbz2⟩
              all_goals
                go_wp2
                go_roundw
                case rel =>
                  rw [HKQ.out]
                  exact HREL.out _ rfl
                case measure => simp [intOf]; omega
            · have hbn : b ≠ 0 := fun h => hT (.inl h)
              have hble : el zs p ≤ S := Int.not_lt.1 (fun h => hT (.inr h))
              have hbz : ((b : Int) == 0) = false := by simp; omega
              have hlt2 : ¬ S < el zs p := by omega
              have HI3 := hid (HLV.out S rfl ⟨hbn, hble⟩)
              clear HTK HLV HI hT hbn d0 d1 df0 df1
              have HR2 := hid (HR1.out.up s1')
              go_wp2
              go_roundw
              case rel => exact ⟨q, b, zs, cur, by have := HQ.out; omega, by rw [HKQ.out], HI3, hbx, HZ, HDR, hw1, HG1, HCS, HR2, bb1⟩
              case measure => simp [intOf]; omega
          · have hr' : rnOk ((xs.drop p).take k) dn = false := by simpa using hr
            have HI2 := hid (ChI.skipK HQ.out HI.out hr')
            have HRN := hid hr'
            clear hr hr'
            go_wp2_with fail
            refine (c_runOf _ _ _ hsub dn).mono ?_
            rw [HRN.out]
            rintro e w1 ⟨v1, rfl, r1, b1⟩
            have s1' := b1.size
            have hw1 := hw.below b1 hw.lt
            have HG1 := hid ((b1.block (w.heap.size + 1) (Array.getElem?_eq_some_iff.1 HG.out).1).trans HG.out)
            have HR1 := hid ((HR.out.below b1 (Nat.le_refl _)).up s1')
            have bb1 := hbel.trans (b1.mono hbs)
            clear r1 b1 hsub hw hbel
            go_wp2
            go_roundw
            case rel => exact ⟨q, b, zs, cur, by have := HQ.out; omega, by rw [HKQ.out], HI2, hbx, HZ, HDR, hw1, HG1, HCS, HR1, bb1⟩
            case measure => simp [intOf]; omega
        · obtain rfl : k = 0 := by omega
          have HDN := hid (HDONE.out p hpl b _ HI.out)
          have hb1 := HDN.out.1
          subst hb1
          have hch1 := (HCN.out p hpl).1
          have HDR2 := hid (show zs.drop p = bst xs dn s c (xs.length - p) by
            have hh := bst_hd (xs := xs) (d := dn) (s := s) (c := c) (k := xs.length - (p + 1)) (by omega)
            rw [show xs.length - (p + 1) + 1 = xs.length - p by omega, show xs.length - (xs.length - p) = p by omega] at hh
            rw [hh, drop_step hpz HDR.out, HDN.out.2])
          have HR2 := hid (HR.out.congr fun i _ => cf_end hch1 i)
          clear HI
          go_wp2
          go_roundw
          case rel => exact ⟨_, p, zs, cur, rfl, by go_num, by omega, HZ, HDR2, hw, HG, HCS, HR2, hbel⟩
          case measure => simp [intOf]
    · obtain rfl : m = 0 := by omega
      have kz : ¬ (0 : Int) ≤ z := by omega
      obtain ⟨U, hU1, hU2⟩ := HR.out
      have HU1 := hid hU1
      have HU2 := hid hU2
      clear hz hU1 hU2 HR HDR hw
      obtain ⟨wL, hwL⟩ : ∃ x : World, x = wr := ⟨_, rfl⟩
      rw [← hwL] at HU1 HG hbel hbs ⊢
      clear hwL
      have HGL := hid (Array.getElem?_eq_some_iff.1 HG.out).1
      have hgl := HGL.out
      go_wp2
      go_loopw [17, 18] (fun o i wr => ∃ (f : Nat) (L : List (Int × List Int)), f ≤ xs.length ∧ i = .int .i64 f ∧ Hid (OwnP wr wL.heap.size o L U (cfP xs dn s c 0) f) ∧ L.length ≤ f ∧ Hid (L ++ ck (xs.drop f) dn s c = ck xs dn s c) ∧ Below wL.heap.size wL wr) (fun _ i _ => xs.length - (intOf i).toNat)
      case atStart => exact ⟨0, [], Nat.zero_le _, rfl, OwnP.nil _ _ _ _, Nat.le_refl _, rfl, Below.refl _ _⟩
      case round =>
        obtain ⟨f, L, hf, rfl, HOP, hLf, HL2, hbel2⟩ := hrel
        have hbs2 := hbel2.size
        by_cases hlt : f < xs.length
        · obtain ⟨vals, ix, e1, ho, e2, e3⟩ := HOP.out
          have HO := hid ho
          have HE1 := hid e1
          have HE2 := hid e2
          have HE3 := hid e3
          have HST := hid (HSTEP.out f hlt L HL2.out)
          obtain ⟨n1, n2, -⟩ := HCN.out f hlt
          obtain ⟨u0, u1, u2, u3⟩ := HU1.out f hlt
          have hc0 : cfC xs dn s c 0 f = ((chN (xs.drop f) dn s c : Nat) : Int) := by simp [cfC]
          have hp0 : cfP xs dn s c 0 f = rnL ((xs.drop f).take (chN (xs.drop f) dn s c)) dn := by simp [cfP]
          rw [hc0] at u0 u3
          rw [hp0] at u2
          have HP0 := hid hp0
          rw [List.length_drop] at n2
          generalize hR : chN (xs.drop f) dn s c = R at *
          clear hR hc0 hp0 e1 ho e2 e3
          obtain ⟨aU, cU, hUe⟩ := u2.len
          rw [hUe] at u1
          have HUE := hid hUe
          clear hUe u2
          have c0 : wr.cell? ⟨w.heap.size + 1, f * 2, none⟩ = some (.int .i64 (R : Int)) := (hbel2.cell (p := ⟨w.heap.size + 1, f * 2, none⟩) hgl).trans (by rw [row_cell HG.out]; exact u0)
          have c1 : wr.cell? ⟨w.heap.size + 1, f * 2 + 1, none⟩ = some (.slice aU (rnL ((xs.drop f).take R) dn).length cU) := (hbel2.cell (p := ⟨w.heap.size + 1, f * 2 + 1, none⟩) hgl).trans (by rw [row_cell HG.out]; exact u1)
          clear u0 u1
          have HI0 := hid (info_parts Try.infoSeg3)
          have q0 : 0 ≤ (f : Int) := by omega
          have q1 : (f : Int) < xs.length := by omega
          go_wp2_with (at_builtin; obtain ⟨i0, hi, hz0, hz1, hz2⟩ := HI0.out; refine wpList_appG (news := [.int .i64 (R : Int), .slice aU (rnL ((xs.drop f).take R) dn).length cU]) rfl _ _ _ rfl wL.heap.size 36 i0 _ 2 32 Try.underlying29 hi hz0 hz1 hz2 rfl (by omega) _ L.length vals (by rfl) HO.out (by rfl) rfl (by simp [Value.oneCell']) (by omega) (by omega) hbs2 ?_; clear hi hz0 hz1 hz2; intro v11 w11 hown11 hg11 hb11; have HOW := hid hown11; have c2 := (hb11.cell (p := ⟨w.heap.size + 1, f * 2, none⟩) hgl).trans c0; clear hown11 hg11)
          go_roundw
          case rel =>
            refine ⟨f + R, L ++ [((R : Int), rnL ((xs.drop f).take R) dn)], by omega, by go_num, ?_, by rw [List.length_append, List.length_singleton]; omega, HST, hbel2.trans hb11⟩
            exact OwnP.snoc (vals := vals) (ix := ix) (f := f) HE1.out HE2.out HE3.out (by rw [HUE.out]; exact HOW.out) HP0.out.symm u3 (by omega)
          case measure => simp [intOf]; omega
        · obtain rfl : f = xs.length := by omega
          have HGG := hid (show L = ck xs dn s c by have := HL2.out; rw [List.drop_length, ck_nil, List.append_nil] at this; exact this)
          have hrw := HOP.out.rw (hi := wr.heap.size) (lo := w.heap.size + 1 + 1) (n := xs.length) (Nat.le_refl _) (cur := cur) (C := cfC xs dn s c 0) (fun i hi => ⟨(HU1.out i hi).1, (HU1.out i hi).2.1, (HU1.out i hi).2.2.1.below hbel2 (Nat.le_refl _), (HU1.out i hi).2.2.2⟩) HU2.out (by omega) hbs2 (Nat.le_refl _)
          rw [HGG.out] at hrw
          have hrd := hrw.down (show w.heap.size ≤ _ by omega)
          clear hrw
          go_wp2
          go_ret2
          exact ⟨_, rfl, hrd, hbel.trans (hbel2.mono hbs)⟩
theorem c_iCheapestPlan (w : World) (v : Value) (xs : List Int) (hv : IsI w w.heap.size v xs) (d s c : Int) :
    Calls Try.prog 24 #[v, .int .i64 d, .int .i64 s, .int .i64 c] w (RetSB w (ckL xs d s c) (ckB xs d s c)) := by
  by_cases hG : ckB xs d s c = true
  · obtain ⟨hS, hd, hs, hc⟩ := ckB_iff.1 hG
    obtain ⟨dn, rfl⟩ : ∃ dn : Nat, d = dn := ⟨d.toNat, by omega⟩
    rw [ckL_yes hG, hG]
    exact c_iCheapestY w v xs hv dn s c hS (by omega) hs hc
  · have hG' : ckB xs d s c = false := by simpa using hG
    rw [ckL_no hG', hG']
    have HD : Hid (ckB xs d s c = (SM xs && (inB d 0 6 && (inB s 0 1000 && inB c 0 1000)))) := rfl
    clear hG
    by_cases h0 : SM xs = true
    · by_cases h1 : inB d 0 6 = true
      · by_cases h2 : inB s 0 1000 = true
        · have h3 : inB c 0 1000 = false := by
            have := HD.out
            rw [hG', h0, h1, h2] at this
            simpa using this.symm
          clear hG'
          go_enter Try.func24, Try.ntmps24
          go_wp2_with fail
          refine (c_smallTable _ xs _ _ hv).mono ?_
          rw [h0]
          rintro e wx ⟨rfl, rfl⟩
          go_wp2_with fail
          refine (c_degreeValid _ _).mono ?_
          rw [h1]
          rintro e wx ⟨rfl, rfl⟩
          go_wp2_with fail
          refine (c_costValid _ _).mono ?_
          rw [h2]
          rintro e wx ⟨rfl, rfl⟩
          go_wp2_with fail
          refine (c_costValid _ _).mono ?_
          rw [h3]
          rintro e wx ⟨rfl, rfl⟩
          go_wp2
          go_ret2
          exact ⟨_, rfl, RwS.nil _ _ _, Below.refl _ _⟩
        · replace h2 : inB s 0 1000 = false := by simpa using h2
          clear hG'
          go_enter Try.func24, Try.ntmps24
          go_wp2_with fail
          refine (c_smallTable _ xs _ _ hv).mono ?_
          rw [h0]
          rintro e wx ⟨rfl, rfl⟩
          go_wp2_with fail
          refine (c_degreeValid _ _).mono ?_
          rw [h1]
          rintro e wx ⟨rfl, rfl⟩
          go_wp2_with fail
          refine (c_costValid _ _).mono ?_
          rw [h2]
          rintro e wx ⟨rfl, rfl⟩
          go_wp2
          go_ret2
          exact ⟨_, rfl, RwS.nil _ _ _, Below.refl _ _⟩
      · replace h1 : inB d 0 6 = false := by simpa using h1
        clear hG'
        go_enter Try.func24, Try.ntmps24
        go_wp2_with fail
        refine (c_smallTable _ xs _ _ hv).mono ?_
        rw [h0]
        rintro e wx ⟨rfl, rfl⟩
        go_wp2_with fail
        refine (c_degreeValid _ _).mono ?_
        rw [h1]
        rintro e wx ⟨rfl, rfl⟩
        go_wp2
        go_ret2
        exact ⟨_, rfl, RwS.nil _ _ _, Below.refl _ _⟩
    · replace h0 : SM xs = false := by simpa using h0
      clear hG'
      go_enter Try.func24, Try.ntmps24
      go_wp2_with fail
      refine (c_smallTable _ xs _ _ hv).mono ?_
      rw [h0]
      rintro e wx ⟨rfl, rfl⟩
      go_wp2
      go_ret2
      exact ⟨_, rfl, RwS.nil _ _ _, Below.refl _ _⟩
end Go.Proofs.Ytkiebajggombiaa
