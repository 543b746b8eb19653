/- What is proved here: draws of plans (l5Plan, l5Bad, DrawPlanCost). -/
import Derived.Test.YtkiebajggombiaaPlnR
import Derived.Test.YtkiebajggombiaaPlnT
import Derived.Test.YtkiebajggombiaaPlnG
import Derived.Test.YtkiebajggombiaaLcp
set_option linter.unusedVariables false
set_option linter.unusedSimpArgs false
namespace Go.Proofs.Ytkiebajggombiaa
open Go.RowKit

theorem RwS.blk {w : World} {lo hi : Nat} {v : Value} {L : List (Int × List Int)} (h : RwS w lo hi v L) (hl : 1 ≤ L.length) : ∃ g cap, v = .slice (some ⟨g, 0, none⟩) L.length cap := by
  rcases h with ⟨-, rfl⟩ | ⟨g, cap, cur, rfl, -⟩
  · simp at hl
  · exact ⟨g, cap, rfl⟩
theorem OwnI.lit2 (w : World) (x y : Int) : OwnI (w.alloc (.cells #[.int .i64 x, .int .i64 y] 3)) w.heap.size (.slice (some ⟨w.heap.size, 0, none⟩) 2 2) [x, y] :=
  (Blk.new (w := w) (c := #[.int .i64 x, .int .i64 y]) (xs := [x, y]) rfl).own (Nat.le_refl _) (by simp [maxLen])
theorem lit_plan (w : World) : RwS ((w.alloc (.cells #[.int .i64 1, .int .i64 2] 3)).alloc (.cells #[.int .i64 3, .slice (some ⟨w.heap.size, 0, none⟩) 2 2] 36)) w.heap.size (w.heap.size + 2) (.slice (some ⟨w.heap.size + 1, 0, none⟩) 1 1) [(3, [1, 2])] := by
  have hr := ((OwnI.lit2 w 1 2).rw (hi := w.heap.size + 1) (R64.of_el fun k hk => by
    have : k = 0 ∨ k = 1 := by simp at hk; omega
    rcases this with rfl | rfl
    · show -9223372036854775808 ≤ (1 : Int) ∧ (1 : Int) ≤ _; omega
    · show -9223372036854775808 ≤ (2 : Int) ∧ (2 : Int) ≤ _; omega) (by simp)).alloc (.cells #[.int .i64 3, .slice (some ⟨w.heap.size, 0, none⟩) 2 2] 36)
  have hg := heap_alloc_new (w.alloc (.cells #[.int .i64 1, .int .i64 2] 3)) (.cells #[.int .i64 3, .slice (some ⟨w.heap.size, 0, none⟩) 2 2] 36)
  rw [show (w.alloc (.cells #[.int .i64 1, .int .i64 2] 3)).heap.size = w.heap.size + 1 by simp] at hg
  refine .inr ⟨w.heap.size + 1, 1, _, rfl, ⟨by omega, by omega⟩, hg, ⟨Nat.le_refl _, by unfold maxLen; omega⟩, rfl, ?_⟩
  refine ⟨fun _ => .slice (some ⟨w.heap.size, 0, none⟩) 2 2, fun i hi => ?_, fun i j hi hj hij => by simp at hi hj; omega⟩
  obtain rfl : i = 0 := by simp at hi; omega
  exact ⟨rfl, rfl, hr.up (by omega), by constructor <;> decide⟩
/-- A plan that has been drawn. -/
def DrewPlan (w : World) (B g L : Nat) (e : Ending) (w' : World) : Prop :=
  ∃ gp cap P, e = .returned (.slice (some ⟨gp, 0, none⟩) P.length cap) ∧ RwS w' w.heap.size w'.heap.size (.slice (some ⟨gp, 0, none⟩) P.length cap) P ∧ (1 ≤ P.length ∧ P.length ≤ 61) ∧ Rd w' B g L ∧ Chg g (g + 1) w w'
theorem spL_ge {L : List (Int × List Int)} {i t : Int} (h : spOk L i t = true) : 1 ≤ (spL L i t).length := by
  rw [spL_yes h]; unfold spF; simp; omega
set_option maxRecDepth 100000 in
set_option maxHeartbeats 1600000 in
theorem c_l5Plan (w : World) (B g L : Nat) (hL : L ≤ 40000) (r : Rd w B g L) :
    Calls Try.prog 49 #[.pointer (some ⟨g, 0, none⟩)] w (DrewPlan w B g (L + 50)) := by
  have hgl := r.lt
  have hge := r.ge
  go_enter Try.func49, Try.ntmps49
  go_wp2_with fail
  refine (c_l5Table _ _ _ _ (by omega) r).mono ?_
  clear r
  rintro e w1 ⟨b, cap, xs, rfl, -, hg, hw, r, cc⟩
  have s1 := cc.size
  have hbl := hw.lt
  go_wp2_with fail
  refine (c_pick _ _ _ _ _ (by omega) (by omega) r).mono ?_
  clear r
  rintro e w2 ⟨d, rfl, dq, r, c⟩
  have s2 := c.size
  obtain ⟨d0, d1⟩ := dq.1 (by omega)
  clear dq
  replace cc := cc.trans c
  replace hw := hw.chg c (by omega)
  clear c
  have hx := hw.isI hw.lt
  have hwl := hw.lt
  clear hw
  have HGF := hid (grL_facts xs d)
  go_wp2_with fail
  refine (c_sGreedyPlan _ _ xs (hx.up (by omega)) d).mono ?_
  rintro e w3 ⟨v3, rfl, r3, c⟩
  have s3 := c.size
  replace r := r.below c (by omega)
  replace cc := cc.bel (c.mono (by omega))
  clear c
  by_cases hG : grB xs d = true
  · have hp1 : 1 ≤ (grL xs d).length := by
      obtain ⟨hS, d0, d1⟩ := grB_iff.1 hG
      obtain ⟨dn, rfl⟩ : ∃ dn : Nat, d = dn := ⟨d.toNat, by omega⟩
      have hf : ((grL xs dn).length : Int) = fsF xs dn := by rw [grL_yes hG, fsF_H hS (by omega)]; exact gr_few (by omega) _ xs (Nat.le_refl _) (.inr hS)
      have hp := fsH_pos hS (show dn ≤ 6 by omega)
      rw [← hf] at hp
      omega
    rw [hG]
    clear hG hx
    have hp60 := HGF.out.1
    obtain ⟨gp, cap3, hv3⟩ := r3.blk hp1
    subst hv3
    go_wp2_with fail
    refine (c_pick _ _ _ _ _ (by omega) (by omega) r).mono ?_
    clear r
    rintro e w4 ⟨q, rfl, qq, r, c⟩
    have s4 := c.size
    obtain ⟨q0, q1⟩ := qq.1 (by omega)
    clear qq
    replace cc := cc.trans c
    replace r3 := r3.keep c (by omega)
    clear c
    by_cases hq : q = 0
    · subst hq
      go_wp2_with fail
      refine (c_pick _ _ _ _ _ (by omega) (by omega) r).mono ?_
      clear r
      rintro e w5 ⟨i, rfl, iq, r, c⟩
      have s5 := c.size
      obtain ⟨i0, i1⟩ := iq.1 (by omega)
      clear iq
      replace cc := cc.trans c
      replace r3 := r3.keep c (by omega)
      clear c
      go_wp2_with fail
      refine (c_pick _ _ _ _ _ (by omega) (by omega) r).mono ?_
      clear r
      rintro e w6 ⟨t, rfl, tq, r, c⟩
      have s6 := c.size
      obtain ⟨t0, t1⟩ := tq.1 (by omega)
      clear tq
      replace cc := cc.trans c
      replace r3 := r3.keep c (by omega)
      clear c
      go_wp2_with fail
      refine (c_sSplitSegment _ _ (grL xs d) (r3.isS.up (by omega)) (by omega) (fun i _ => by have := HGF.out.2 i; omega) i (1 + t)).mono ?_
      rintro e w7 ⟨v6, rfl, r6, c⟩
      have s7 := c.size
      replace r := r.below c (by omega)
      replace cc := cc.bel (c.mono (by omega))
      replace r3 := r3.below c (by omega)
      clear c
      by_cases ho : spOk (grL xs d) i (1 + t) = true
      · have h6 := spL_ge ho
        have h7 := (spL_facts (grL xs d) i (1 + t)).1
        rw [ho]
        obtain ⟨gp6, cap6, hv6⟩ := r6.blk h6
        subst hv6
        go_wp2
        go_ret
        exact ⟨gp6, cap6, _, rfl, r6.down (by omega), ⟨h6, h7⟩, r.up (by omega), cc⟩
      · have ho' : spOk (grL xs d) i (1 + t) = false := by simpa using ho
        rw [ho']
        clear ho
        go_wp2
        go_ret
        exact ⟨gp, cap3, _, rfl, (r3.down (by omega)).up (by omega), ⟨hp1, by omega⟩, r.up (by omega), cc⟩
    · have hq' : (q == 0) = false := by simpa using hq
      clear hq
      go_wp2
      go_ret
      exact ⟨gp, cap3, _, rfl, (r3.down (by omega)).up (by omega), ⟨hp1, by omega⟩, r.up (by omega), cc⟩
  · have hG' : grB xs d = false := by simpa using hG
    rw [hG']
    clear hG
    go_wp2
    go_ret
    refine ⟨_, 1, [(3, [1, 2])], rfl, ((lit_plan _).down (by omega)).up (by simp), ⟨by simp, by simp⟩, (r.chg (alloc_chg _ _ B B) (.inl (Nat.le_refl _)) (by omega)).chg (alloc_chg _ _ B B) (.inl (Nat.le_refl _)) (by omega) |>.up (by omega), (cc.trans (alloc_chg _ _ _ _)).trans (alloc_chg _ _ _ _)⟩
theorem Rw.take0 {w : World} {lo hi n c : Nat} {a : Option Addr} {p : List Int} (h : Rw w lo hi (.slice a n c) p) : Rw w lo hi (.slice a 0 c) [] := by
  refine ⟨⟨rfl, ?_⟩, fun k hk => h.2.1 k (by cases a <;> simp [Value.ownBlock] at hk ⊢ <;> exact hk), R64.nil⟩
  rcases h.1.2 with ⟨he, h0⟩ | ⟨g', cap, cur, he, h1, h2, h3, h4, h5, h6⟩
  · simp only [Value.slice.injEq] at he
    obtain ⟨rfl, -, rfl⟩ := he
    exact .inl ⟨rfl, rfl⟩
  · simp only [Value.slice.injEq] at he
    obtain ⟨rfl, -, rfl⟩ := he
    exact .inr ⟨g', c, cur, rfl, h1, h2, Nat.zero_le _, h4, h5, by simp⟩
theorem SgR.setN {w w' : World} {lo hi n g j : Nat} {cur : Array Value} {C : Nat → Int} {P : Nat → List Int} {e : TypeId} {x : Int} (h : SgR w lo hi n cur C P) (hg : w.heap[g]? = some (.cells cur e (0, 0))) (he : e ≠ 3) (hc : Chg g (g + 1) w w') (hj : j < n) (hx : I64 x) :
    SgR w' lo hi n (cur.setIfInBounds (j * 2) (.int .i64 x)) (upd C j x) P := by
  obtain ⟨U, h1, h2⟩ := h
  refine ⟨U, fun i hi => ?_, h2⟩
  obtain ⟨a0, a1, a2, a3⟩ := h1 i hi
  have a4 := a2.keepB hc fun k hk hkk => by
    have : k = g := by omega
    subst this; exact a2.ne hg he hk
  by_cases e1 : i = j
  · subst e1
    have hs : i * 2 < cur.size := by
      rcases Nat.lt_or_ge (i * 2) cur.size with h | h
      · exact h
      · rw [Array.getElem?_eq_none h] at a0; cases a0
    simp only [upd, if_true]
    exact ⟨getSetS hs, by rw [getSet (by omega)]; exact a1, a4, hx⟩
  · simp only [upd, if_neg e1]
    exact ⟨by rw [getSet (by omega)]; exact a0, by rw [getSet (by omega)]; exact a1, a4, a3⟩
theorem SgR.setP {w : World} {lo hi hi' n g j : Nat} {cur : Array Value} {C : Nat → Int} {P : Nat → List Int} {e : TypeId} (h : SgR w lo hi n cur C P) (hg : w.heap[g]? = some (.cells cur e (0, 0))) (he : e ≠ 3) (hj : j < n) (hs : j * 2 + 1 < cur.size) (hh : hi ≤ hi') :
    ∃ u0, cur[j * 2 + 1]? = some u0 ∧ Rw w lo hi u0 (P j) ∧ ∀ w' u ys, Chg g (g + 1) w w' → Rw w' lo hi' u ys → ((∀ k, u.ownBlock = some k → u0.ownBlock = some k) ∨ ∀ k, u.ownBlock = some k → hi ≤ k) → SgR w' lo hi' n (cur.setIfInBounds (j * 2 + 1) u) C (upd P j ys) := by
  obtain ⟨U, h1, h2⟩ := h
  obtain ⟨b0, b1, b2, b3⟩ := h1 j hj
  refine ⟨U j, b1, b2, fun w' u ys hc hu hd => ⟨upd U j u, fun i hi => ?_, fun i i' hi hi' hii k hk => ?_⟩⟩
  · obtain ⟨a0, a1, a2, a3⟩ := h1 i hi
    by_cases e1 : i = j
    · subst e1
      simp only [upd, if_true]
      exact ⟨by rw [getSet (by omega)]; exact a0, getSetS hs, hu, a3⟩
    · simp only [upd, if_neg e1]
      exact ⟨by rw [getSet (by omega)]; exact a0, by rw [getSet (by omega)]; exact a1, (a2.keepB hc fun k hk hkk => by
        have : k = g := by omega
        subst this; exact a2.ne hg he hk).up hh, a3⟩
  · by_cases e1 : i = j
    · by_cases e2 : i' = j
      · omega
      · simp only [upd, if_pos e1] at hk
        simp only [upd, if_neg e2]
        rcases hd with hd | hd
        · exact h2 j i' hj hi' (by omega) k (hd k hk)
        · intro hk2
          have := (h1 i' hi').2.2.1.2.1 k hk2
          have := hd k hk
          omega
    · simp only [upd, if_neg e1] at hk
      by_cases e2 : i' = j
      · simp only [upd, if_pos e2]
        intro hk2
        rcases hd with hd | hd
        · exact h2 i j hi hj e1 k hk (hd k hk2)
        · have := (h1 i hi).2.2.1.2.1 k hk
          have := hd k hk2
          omega
      · simp only [upd, if_neg e2]
        exact h2 i i' hi hi' hii k hk
theorem p_set {P : List (Int × List Int)} {i : Nat} (hi : i < P.length) (y : Int × List Int) : ∀ k, k < P.length → upd (pC P) i y.1 k = pC (P.set i y) k ∧ upd (pP P) i y.2 k = pP (P.set i y) k := by
  intro k hk
  unfold pC pP upd
  by_cases e : k = i
  · subst e; simp [List.getD_eq_getElem?_getD, List.getElem?_set, hi]
  · have : ¬ i = k := fun h => e h.symm
    simp [List.getD_eq_getElem?_getD, List.getElem?_set, e, this]
theorem OwnI.lit7 (w : World) (a b c d e f g : Int) : OwnI (w.alloc (.cells #[.int .i64 a, .int .i64 b, .int .i64 c, .int .i64 d, .int .i64 e, .int .i64 f, .int .i64 g] 3)) w.heap.size (.slice (some ⟨w.heap.size, 0, none⟩) 7 7) [a, b, c, d, e, f, g] :=
  (Blk.new (w := w) (c := #[.int .i64 a, .int .i64 b, .int .i64 c, .int .i64 d, .int .i64 e, .int .i64 f, .int .i64 g]) (xs := [a, b, c, d, e, f, g]) rfl).own (Nat.le_refl _) (by simp [maxLen])
def BadPlan (w : World) (B g lo L : Nat) (e : Ending) (w' : World) : Prop :=
  ∃ v P, e = .returned v ∧ RwS w' lo w'.heap.size v P ∧ P.length ≤ 61 ∧ Rd w' B g L ∧ Below B w w'
set_option maxRecDepth 100000 in
set_option maxHeartbeats 1600000 in
theorem c_l5Bad (w : World) (B g L lo hi gp cap : Nat) (P : List (Int × List Int)) (hL : L ≤ 45000) (r : Rd w B g L) (hv : RwS w lo hi (.slice (some ⟨gp, 0, none⟩) P.length cap) P) (hp : 1 ≤ P.length ∧ P.length ≤ 61) (hlo : g < lo) (hhi : hi ≤ w.heap.size) :
    Calls Try.prog 48 #[.pointer (some ⟨g, 0, none⟩), .slice (some ⟨gp, 0, none⟩) P.length cap] w (BadPlan w B g lo (L + 5)) := by
  have hgl := r.lt
  have hge := r.ge
  obtain ⟨hp1, hp2⟩ := hp
  have cc := Chg.refl g (g + 1) w
  go_enter Try.func48, Try.ntmps48
  go_wp2_with fail
  refine (c_pick _ _ _ _ _ (by omega) (by omega) r).mono ?_
  clear r
  rintro e w2 ⟨i, rfl, iq, r, c⟩
  have s2 := c.size
  obtain ⟨i0, i1⟩ := iq.1 (by omega)
  clear iq
  replace cc := cc.trans c
  replace hv := hv.keep c (by omega)
  clear c
  obtain ⟨j, rfl⟩ : ∃ j : Nat, i = j := ⟨i.toNat, by omega⟩
  have hj : j < P.length := by omega
  go_wp2_with fail
  refine (c_pick _ _ _ _ _ (by omega) (by omega) r).mono ?_
  clear r
  rintro e w3 ⟨k, rfl, kq, r, c⟩
  have s3 := c.size
  obtain ⟨k0, k1⟩ := kq.1 (by omega)
  clear kq
  replace cc := cc.trans c
  replace hv := hv.keep c (by omega)
  clear c
  by_cases hk0 : k = 0
  · subst hk0
    go_wp2_with fail
    refine (c_numLit _ _ _ _ _ [0, (-1), 61, 50, 9223372036854775807] rfl (by intro x hx; simp at hx; omega) (by omega) (by simp) (by simp) _ rfl r).mono ?_
    clear r
    rintro e w4 ⟨x, rfl, xq, r, c⟩
    have s4 := c.size
    simp only [List.mem_cons, List.not_mem_nil, or_false] at xq
    replace cc := cc.trans c
    replace hv := hv.keep c (by omega)
    clear c
    rcases hv with ⟨h, -⟩ | ⟨g', cap', cur, he, hg, hgg, hm, hs, hr⟩
    · cases h
    simp only [Value.slice.injEq, Option.some.injEq, Addr.mk.injEq, and_true, true_and] at he
    obtain ⟨rfl, rfl⟩ := he
    have hci : j * 2 < cur.size := by omega
    have hx64 : I64 x := by rcases xq with rfl | rfl | rfl | rfl | rfl <;> constructor <;> decide
    have c0 : w4.cell? ⟨gp, j * 2, none⟩ = some (cur[j * 2]'hci) := by rw [row_cell hgg, Array.getElem?_eq_getElem hci]
    have p0 := row_free hgg (j * 2)
    have kk := seg_chg w4 gp (j * 2) (.int .i64 x)
    have HR := hid ((hr.setN hgg (by decide) kk hj hx64).congr (C' := pC (P.set j (x, pP P j))) (P' := pP (P.set j (x, pP P j))) (fun k hk => by
      obtain ⟨e1, e2⟩ := p_set hj (x, pP P j) k hk
      refine ⟨e1, ?_⟩
      rw [← e2]; unfold upd; split <;> simp_all))
    have HG := hid (row_set hgg (j * 2) (.int .i64 x))
    have hb := (cc.below (B := B) (by omega) (by omega)).setCell (p := ⟨gp, j * 2, none⟩) (by show B ≤ gp; omega) (.int .i64 x)
    have hrr := r.setb (b := gp) (by omega) (by omega) (j * 2) (.int .i64 x)
    have hSL := hid (show (P.set j (x, pP P j)).length = P.length by simp)
    clear hr hgg kk xq
    go_wp2
    go_ret
    refine ⟨_, P.set j (x, pP P j), rfl, .inr ⟨gp, cap, _, by rw [hSL.out] <;> rfl, ⟨hg.1, by simp; omega⟩, HG.out, by rw [hSL.out]; exact hm, by simpa using hs, by rw [hSL.out]; exact HR.out.up (by simp; omega)⟩, by rw [hSL.out]; exact hp2, hrr.up (by omega), hb⟩
  · have hk0' : (k == 0) = false := by simpa using hk0
    by_cases hk1 : k = 1
    · subst hk1
      rcases hv with ⟨h, -⟩ | ⟨g', cap', cur, he, hg, hgg, hm, hs, hr⟩
      · cases h
      simp only [Value.slice.injEq, Option.some.injEq, Addr.mk.injEq, and_true, true_and] at he
      obtain ⟨rfl, rfl⟩ := he
      have hci : j * 2 + 1 < cur.size := by omega
      obtain ⟨u0, hu0, ru0, hput⟩ := hr.setP hgg (by decide) hj hci (Nat.le_refl _)
      obtain ⟨a0, c0', hu⟩ := ru0.len
      subst hu
      have c1 : w3.cell? ⟨gp, j * 2 + 1, none⟩ = some (.slice a0 (pP P j).length c0') := by rw [row_cell hgg]; exact hu0
      have p1 := row_free hgg (j * 2 + 1)
      have kk := seg_chg w3 gp (j * 2 + 1) (.slice a0 0 c0')
      have HR := hid ((hput _ _ [] kk (ru0.keepB kk (fun k hk hkk => by
        have : k = gp := by omega
        subst this; exact ru0.ne hgg (by decide) hk)).take0 (.inl fun k hk => by cases a0 <;> simp [Value.ownBlock] at hk ⊢ <;> exact hk)).congr (C' := pC (P.set j (pC P j, []))) (P' := pP (P.set j (pC P j, []))) (fun k hk => by
        obtain ⟨e1, e2⟩ := p_set hj (pC P j, []) k hk
        refine ⟨?_, e2⟩
        rw [← e1]; unfold upd; split <;> simp_all))
      have HG := hid (row_set hgg (j * 2 + 1) (.slice a0 0 c0'))
      have hb := (cc.below (B := B) (by omega) (by omega)).setCell (p := ⟨gp, j * 2 + 1, none⟩) (by show B ≤ gp; omega) (.slice a0 0 c0')
      have hrr := r.setb (b := gp) (by omega) (by omega) (j * 2 + 1) (.slice a0 0 c0')
      have hSL := hid (show (P.set j (pC P j, [])).length = P.length by simp)
      clear hr hgg kk hput ru0 hu0 hk0
      go_wp2
      go_ret
      refine ⟨_, P.set j (pC P j, []), rfl, .inr ⟨gp, cap, _, by rw [hSL.out] <;> rfl, ⟨hg.1, by simp; omega⟩, HG.out, by rw [hSL.out]; exact hm, by simpa using hs, by rw [hSL.out]; exact HR.out.up (by simp; omega)⟩, by rw [hSL.out]; exact hp2, hrr.up (by omega), hb⟩
    · have hk1' : (k == 1) = false := by simpa using hk1
      by_cases hk2 : k = 2
      · subst hk2
        rcases hv with ⟨h, -⟩ | ⟨g', cap', cur, he, hg, hgg, hm, hs, hr⟩
        · cases h
        simp only [Value.slice.injEq, Option.some.injEq, Addr.mk.injEq, and_true, true_and] at he
        obtain ⟨rfl, rfl⟩ := he
        have hm2 : (0 : Int) ≤ cap := by omega
        have hm3 := hm.2
        clear hk0 hk1
        go_wp2
        go_ret
        exact ⟨_, [], rfl, .inr ⟨gp, cap, cur, rfl, ⟨hg.1, by omega⟩, hgg, ⟨Nat.zero_le _, hm3⟩, hs, SgR.zero _ _ _ _ _ _⟩, by simp, r.up (by omega), cc.below (by omega) (by omega)⟩
      · have hk2' : (k == 2) = false := by simpa using hk2
        by_cases hk3 : k = 3
        · subst hk3
          rcases hv with ⟨h, -⟩ | ⟨g', cap', cur, he, hg, hgg, hm, hs, hr⟩
          · cases h
          simp only [Value.slice.injEq, Option.some.injEq, Addr.mk.injEq, and_true, true_and] at he
          obtain ⟨rfl, rfl⟩ := he
          have hci : j * 2 + 1 < cur.size := by omega
          have hA := alloc_chg w3 (.cells #[.int .i64 0, .int .i64 0, .int .i64 0, .int .i64 0, .int .i64 0, .int .i64 0, .int .i64 100000] 3) B B
          have hgA := (hA.block gp (by omega) (by omega)).trans hgg
          have hrA := hr.alloc (.cells #[.int .i64 0, .int .i64 0, .int .i64 0, .int .i64 0, .int .i64 0, .int .i64 0, .int .i64 100000] 3)
          have hsA : (w3.alloc (.cells #[.int .i64 0, .int .i64 0, .int .i64 0, .int .i64 0, .int .i64 0, .int .i64 0, .int .i64 100000] 3)).heap.size = w3.heap.size + 1 := by simp
          have hrwA := (OwnI.lit7 w3 0 0 0 0 0 0 100000).rw (hi := w3.heap.size + 1) (by intro x hx; simp at hx; omega) (by simp)
          have rA := r.chg hA (.inl (Nat.le_refl _)) (by omega)
          have bA := (cc.below (B := B) (by omega) (by omega)).trans (hA.below (B := B) (by omega) (by omega))
          generalize hwA : w3.alloc (.cells #[.int .i64 0, .int .i64 0, .int .i64 0, .int .i64 0, .int .i64 0, .int .i64 0, .int .i64 100000] 3) = wA at *
          have HWA := hid hwA
          obtain ⟨u0, hu0, ru0, hput⟩ := hrA.setP hgA (by decide) hj hci (show hi ≤ w3.heap.size + 1 by omega)
          have c1 : wA.cell? ⟨gp, j * 2 + 1, none⟩ = some u0 := by rw [row_cell hgA]; exact hu0
          have p1 := row_free hgA (j * 2 + 1)
          have kk := seg_chg wA gp (j * 2 + 1) (.slice (some ⟨w3.heap.size, 0, none⟩) 7 7)
          have HR := hid ((hput _ _ [0, 0, 0, 0, 0, 0, 100000] kk ((hrwA.keep kk (.inr (by omega))).down (by omega)) (.inr fun k hk => by simp [Value.ownBlock] at hk; omega)).congr (C' := pC (P.set j (pC P j, [0, 0, 0, 0, 0, 0, 100000]))) (P' := pP (P.set j (pC P j, [0, 0, 0, 0, 0, 0, 100000]))) (fun k hk => by
            obtain ⟨e1, e2⟩ := p_set hj (pC P j, [0, 0, 0, 0, 0, 0, 100000]) k hk
            refine ⟨?_, e2⟩
            rw [← e1]; unfold upd; split <;> simp_all))
          have HG := hid (row_set hgA (j * 2 + 1) (.slice (some ⟨w3.heap.size, 0, none⟩) 7 7))
          have hb := bA.setCell (p := ⟨gp, j * 2 + 1, none⟩) (by show B ≤ gp; omega) (.slice (some ⟨w3.heap.size, 0, none⟩) 7 7)
          have hrr := rA.setb (b := gp) (by omega) (by omega) (j * 2 + 1) (.slice (some ⟨w3.heap.size, 0, none⟩) 7 7)
          have hSL := hid (show (P.set j (pC P j, [0, 0, 0, 0, 0, 0, 100000])).length = P.length by simp)
          have HSA := hid hsA
          rw [← HWA.out] at c1 p1
          clear hr hgg kk hput ru0 hu0 hk0 hk1 hk2 hrA hgA hA hrwA hwA hsA
          go_wp2
          go_ret
          rw [HWA.out]
          refine ⟨_, P.set j (pC P j, [0, 0, 0, 0, 0, 0, 100000]), rfl, .inr ⟨gp, cap, _, by rw [hSL.out] <;> rfl, ⟨hg.1, by have := HSA.out; simp; omega⟩, HG.out, by rw [hSL.out]; exact hm, by simpa using hs, by rw [hSL.out]; exact HR.out.up (by have := HSA.out; simp; omega)⟩, by rw [hSL.out]; exact hp2, hrr.up (by omega), hb⟩
        · have hk3' : (k == 3) = false := by simpa using hk3
          clear hk0 hk1 hk2 hk3
          go_wp2
          go_ret
          exact ⟨_, P, rfl, hv.up (by omega), hp2, r.up (by omega), cc.below (by omega) (by omega)⟩
def PlanI2 (w : World) (e : Ending) (w' : World) : Prop := ∃ (v : Value) (P : List (Int × List Int)) (s c : Int), e = .returned (.tuple #[v, .int .i64 s, .int .i64 c]) ∧ IsS w' w'.heap.size v P ∧ P.length ≤ 61 ∧ Below w.heap.size w w'
theorem c_DrawPlanCost (w : World) (v : Value) (k : Nat) (hv : IsBy w w.heap.size v k) :
    Calls Try.prog 14 #[v] w (PlanI2 w) := by
  go_enter Try.func14, Try.ntmps14
  go_wp2_with fail
  refine (c_l9Open _ _ _ hv).mono ?_
  rintro e w0 ⟨rfl, r, b, sz⟩
  clear hv
  go_wp2_with fail
  refine (c_l5Plan _ _ _ _ (by omega) r).mono ?_
  clear r
  rintro e w1 ⟨gp, cap, P, rfl, hv, hp, r, cc⟩
  have s1 := cc.size
  have hgl := r.lt
  replace b := b.trans (cc.below (by omega) (by omega))
  go_wp2_with fail
  refine (c_l5Bad _ _ _ _ _ _ _ _ P (by omega) r hv hp (by omega) (Nat.le_refl _)).mono ?_
  clear r hv
  rintro e w2 ⟨v2, P2, rfl, hv2, hp2, r, bb⟩
  have s2 := bb.size
  replace b := b.trans bb
  go_wp2_with fail
  refine (c_l5Costs _ _ _ _ (by omega) r).mono ?_
  clear r
  rintro e w3 ⟨x, y, rfl, r, c3⟩
  have s3 := c3.size
  have hv3 := (hv2.keep c3 (by omega)).isS.up s3
  replace b := b.trans (c3.below (by omega) (by omega))
  go_wp2
  refine bodyPost_ret (v := .tuple #[v2, .int .i64 x, .int .i64 y]) (by simp [results, Try.results14, go_sem]) rfl ?_
  exact ⟨_, P2, _, _, rfl, hv3, hp2, b⟩
end Go.Proofs.Ytkiebajggombiaa
