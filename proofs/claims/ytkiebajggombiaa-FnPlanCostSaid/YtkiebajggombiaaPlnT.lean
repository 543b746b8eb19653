/- What is proved here: contracts of SplitSegment (spec). -/
import Derived.Test.YtkiebajggombiaaPlnO
import Derived.Test.YtkiebajggombiaaShf
import Derived.Laws.AppendOwnNone
import Derived.Deep.RegionHeld3
set_option linter.unusedVariables false
set_option linter.unusedSimpArgs false
namespace Go.Proofs.Ytkiebajggombiaa
open Go.RowKit

/-! ### parts of slices of segments -/
theorem IsS.take {w : World} {B n cap : Nat} {a : Option Addr} {L : List (Int × List Int)} (h : IsS w B (.slice a n cap) L) {k : Nat} (hk : k ≤ L.length) : IsS w B (.slice a k cap) (L.take k) := by
  obtain ⟨a', cap', he, hmm, hc⟩ := h
  simp only [Value.slice.injEq] at he
  obtain ⟨rfl, rfl, rfl⟩ := he
  have hl : (L.take k).length = k := by rw [List.length_take]; omega
  refine ⟨a, cap, by rw [hl], ⟨by omega, hmm.2.1, hmm.2.2⟩, fun i hi => ?_⟩
  rw [hl] at hi
  obtain ⟨b', off', u, ha, hb, g0, g1, hu, h64⟩ := hc i (by omega)
  obtain ⟨e1, e2⟩ := p_take (L := L) hi
  exact ⟨b', off', u, ha, hb, by rw [e1]; exact g0, g1, by rw [e2]; exact hu, by rw [e1]; exact h64⟩
theorem IsS.rest {w : World} {B n b off cap : Nat} {L : List (Int × List Int)} (h : IsS w B (.slice (some ⟨b, off, none⟩) n cap) L) {lo : Nat} (hm : lo ≤ L.length) : IsS w B (.slice (some ⟨b, off + lo * 2, none⟩) (n - lo) (cap - lo)) (L.drop lo) := by
  obtain ⟨a', cap', he, hmm, hc⟩ := h
  simp only [Value.slice.injEq] at he
  obtain ⟨rfl, rfl, rfl⟩ := he
  have hl : (L.drop lo).length = L.length - lo := List.length_drop
  refine ⟨_, cap - lo, by rw [hl], ⟨by omega, by omega, fun h => by cases h⟩, fun i hi => ?_⟩
  rw [hl] at hi
  obtain ⟨b', off', u, ha, hb, g0, g1, hu, h64⟩ := hc (lo + i) (by omega)
  simp only [Option.some.injEq, Addr.mk.injEq, and_true] at ha
  obtain ⟨rfl, rfl⟩ := ha
  obtain ⟨e3, e4⟩ := p_drop (L := L) (n := lo) (i := i)
  exact ⟨b, off + lo * 2, u, rfl, hb, by rw [e3, show off + lo * 2 + i * 2 = off + (lo + i) * 2 by omega]; exact g0, by rw [show off + lo * 2 + i * 2 + 1 = off + (lo + i) * 2 + 1 by omega]; exact g1, by rw [e4]; exact hu, by rw [e3]; exact h64⟩
theorem IsS.zero {w : World} {B : Nat} {a : Option Addr} {cap : Nat} (hc : cap ≤ maxLen) (hn : Hid (a = none → cap = 0)) : IsS w B (.slice a 0 cap) [] := ⟨a, cap, rfl, ⟨Nat.zero_le _, hc, hn⟩, fun i hi => by simp at hi⟩

/-! ### a slice of segments that the call owns, whose polynomials it only reads -/
def OwnQ (w : World) (B : Nat) (v : Value) (L : List (Int × List Int)) : Prop :=
  ∃ vals : List Value, vals.length = L.length * 2 ∧ w.ownsRow B 36 2 v L.length vals ∧ ∀ i, i < L.length → vals[i * 2]? = some (.int .i64 (pC L i)) ∧ ∃ u, vals[i * 2 + 1]? = some u ∧ IsI w B u (pP L i) ∧ I64 (pC L i)
theorem OwnQ.empty (w : World) {B : Nat} {c : Array Value} (hB : B ≤ w.heap.size) (hc : c = #[]) : OwnQ (w.alloc (.cells c 36)) B (.slice (some ⟨w.heap.size, 0, none⟩) 0 0) [] := by
  subst hc; exact ⟨[], rfl, World.ownsRow_made w #[] 0 hB (by unfold maxLen; omega) (by simp), fun i hi => by simp at hi⟩
theorem OwnQ.isS {w : World} {B : Nat} {v : Value} {L : List (Int × List Int)} (h : OwnQ w B v L) (hB : B ≤ w.heap.size) : IsS w w.heap.size v L := by
  obtain ⟨vals, h1, h2, h3⟩ := h
  have hlt := h2.lt
  rcases h2.2 with ⟨rfl, hn⟩ | ⟨g, cap, cur, rfl, hbg, hgg, hnc, hcm, hcs, hct⟩
  · rw [List.eq_nil_of_length_eq_zero hn]; exact IsS.nil _ _
  · refine ⟨_, cap, rfl, ⟨hnc, hcm, fun h => by cases h⟩, fun i hi => ?_⟩
    obtain ⟨a0, u, a1, a2, a3⟩ := h3 i hi
    have hat : ∀ j, j < L.length * 2 → cur[j]? = vals[j]? := by
      intro j hj
      have e : vals[j]? = cur.toList[j]? := by rw [← hct, List.getElem?_take, if_pos hj]
      rw [e, Array.getElem?_toList]
    exact ⟨g, 0, u, rfl, (hlt g rfl).2, by rw [Nat.zero_add, row_cell hgg, hat _ (by omega)]; exact a0, by rw [Nat.zero_add, row_cell hgg, hat _ (by omega)]; exact a1, a2.up hB, a3⟩
/-- The cells of a slice of segments, as one list. -/
theorem IsS.vals {w : World} {B n cap : Nat} {ad : Addr} {K : List (Int × List Int)} (h : IsS w B (.slice (some ad) n cap) K) :
    ∃ news : List Value, news.length = K.length * 2 ∧ (∀ j u, news[j]? = some u → w.cell? (ad.add j) = some u) ∧ (∀ u ∈ news, u.oneCell' = true) ∧ ∀ i, i < K.length → news[i * 2]? = some (.int .i64 (pC K i)) ∧ ∃ u, news[i * 2 + 1]? = some u ∧ IsI w B u (pP K i) ∧ I64 (pC K i) := by
  obtain ⟨a, cap', he, hm, hc⟩ := h
  simp only [Value.slice.injEq] at he
  obtain ⟨rfl, rfl, rfl⟩ := he
  have hcell : ∀ j, j < K.length * 2 → ∃ x, w.cell? (ad.add j) = some x ∧ x.oneCell' = true := by
    intro j hj
    obtain ⟨b, off, u, ha, hb, g0, g1, hu, h64⟩ := hc (j / 2) (by omega)
    simp only [Option.some.injEq] at ha
    subst ha
    have e : (⟨b, off, none⟩ : Addr).add j = ⟨b, off + j, none⟩ := by unfold Addr.add; split <;> simp_all
    rw [e]
    by_cases h2 : j % 2 = 0
    · exact ⟨_, by rw [show off + j = off + j / 2 * 2 by omega]; exact g0, by simp [Value.oneCell']⟩
    · obtain ⟨au, cu, rfl, -⟩ := hu
      exact ⟨_, by rw [show off + j = off + j / 2 * 2 + 1 by omega]; exact g1, by simp [Value.oneCell']⟩
  refine ⟨(List.range (K.length * 2)).map fun j => (w.cell? (ad.add j)).getD undef, by simp, fun j u hu => ?_, fun u hu => ?_, fun i hi => ?_⟩
  · rw [List.getElem?_map] at hu
    cases hr : (List.range (K.length * 2))[j]? with
    | none => rw [hr] at hu; cases hu
    | some j' =>
      rw [hr] at hu
      have hjl : j < K.length * 2 := by
        rcases Nat.lt_or_ge j (K.length * 2) with h | h
        · exact h
        · rw [List.getElem?_eq_none (by simpa using h)] at hr; cases hr
      rw [List.getElem?_range hjl] at hr
      simp only [Option.some.injEq] at hr
      subst hr
      obtain ⟨x, hx, -⟩ := hcell j hjl
      simp only [Option.map_some, Option.some.injEq] at hu
      rw [hx] at hu ⊢
      simpa using hu
  · obtain ⟨j, hj, rfl⟩ := List.mem_map.1 hu
    obtain ⟨x, hx, h1⟩ := hcell j (List.mem_range.1 hj)
    rw [hx]; exact h1
  · obtain ⟨b, off, u, ha, hb, g0, g1, hu, h64⟩ := hc i hi
    simp only [Option.some.injEq] at ha
    subst ha
    have e : ∀ j, (⟨b, off, none⟩ : Addr).add j = ⟨b, off + j, none⟩ := by intro j; unfold Addr.add; split <;> simp_all
    refine ⟨?_, u, ?_, hu, h64⟩
    · rw [List.getElem?_map, List.getElem?_range (by omega)]
      simp only [Option.map_some, e, g0, Option.getD_some]
    · rw [List.getElem?_map, List.getElem?_range (by omega)]
      simp only [Option.map_some, e, ← Nat.add_assoc, g1, Option.getD_some]
theorem p_cat {L K : List (Int × List Int)} {P : Nat → Int → List Int → Prop} (h1 : ∀ i, i < L.length → P i (pC L i) (pP L i)) (h2 : ∀ i, i < K.length → P (L.length + i) (pC K i) (pP K i)) : ∀ i, i < (L ++ K).length → P i (pC (L ++ K) i) (pP (L ++ K) i) := by
  intro i hi
  rw [List.length_append] at hi
  by_cases e : i < L.length
  · rw [(p_appL e).1, (p_appL e).2]; exact h1 i e
  · rw [(p_appR (by omega)).1, (p_appR (by omega)).2]
    have := h2 (i - L.length) (by omega)
    rwa [show L.length + (i - L.length) = i by omega] at this
/-- append(out, xs...) of segments. -/
theorem wpList_appQ {ops : Array Oper} {rest : List Oper} {o : Oper} {a : Act} {Q : Exit → Act → World → Prop} {w : World} (hgd : o.guard = none) (s x : Operand)
    (ho : o.op = .call { callee := .builtin .append, args := #[s, x], argTypes := #[29, 29] })
    (B : Nat) (v : Value) (L : List (Int × List Int)) (hs : a.eval s = v) (hown : OwnQ w B v L) (ad : Option Addr) (m cap : Nat) (K : List (Int × List Int)) (hx : a.eval x = .slice ad m cap) (hk : IsS w B (.slice ad m cap) K)
    (hn : L.length + K.length ≤ 1099511627776) (hbase : B ≤ w.heap.size)
    (h : ∀ v' w', OwnQ w' B v' (L ++ K) → Below B w w' → wpList Try.prog ops Q rest (a.put o.dst v') w') :
    wpList Try.prog ops Q (o :: rest) a w := by
  obtain ⟨i0, hi, hz0, hz1, hz2⟩ := info_parts Try.infoSeg3
  obtain ⟨vals, h1, h2, h3⟩ := hown
  obtain ⟨a', cap', he, hm, hc⟩ := id hk
  simp only [Value.slice.injEq] at he
  obtain ⟨rfl, rfl, rfl⟩ := he
  cases ad with
  | none =>
    have hK : K = [] := by
      cases K with
      | nil => rfl
      | cons y l => obtain ⟨b, off, u, hb, _⟩ := hc 0 (by simp); cases hb
    subst hK
    have hc0 : cap = 0 := hm.2.2.out rfl
    subst hc0
    exact wpList_append_own_none hgd s x 29 ho B 36 i0 2 Try.underlying29 hi v _ _ hs h2 hx (h v w (by rw [List.append_nil]; exact ⟨vals, h1, h2, h3⟩) (Below.refl _ _))
  | some ad =>
    obtain ⟨news, n1, n2, n3, n4⟩ := hk.vals
    refine wpList_append_own _ hgd s x 29 ho B 36 i0 _ 2 32 Try.underlying29 hi hz0 hz1 hz2 rfl (by omega) v _ vals hs h2 ad K.length cap news hx n1 n2 n3 (by unfold maxLen; omega) (by omega) hbase ?_
    intro v' w' hown' hg _
    have hb : Below B w w' := ⟨hg.os, hg.tape, hg.output, hg.size, fun k hk => hg.block k (by omega) (fun e => by have := (World.ownsRow.lt h2 k e.symm).1; omega)⟩
    refine h v' w' ⟨vals ++ news, by rw [List.length_append, List.length_append, h1, n1]; omega, by rw [List.length_append]; exact hown', ?_⟩ hb
    refine p_cat (P := fun i c p => (vals ++ news)[i * 2]? = some (.int .i64 c) ∧ ∃ u, (vals ++ news)[i * 2 + 1]? = some u ∧ IsI w' B u p ∧ I64 c) (fun i hi => ?_) (fun i hi => ?_)
    · obtain ⟨a0, u, a1, a2, a3⟩ := h3 i hi
      exact ⟨by rw [List.getElem?_append_left (by omega)]; exact a0, u, by rw [List.getElem?_append_left (by omega)]; exact a1, a2.below hb (Nat.le_refl _), a3⟩
    · obtain ⟨a0, u, a1, a2, a3⟩ := n4 i hi
      exact ⟨by rw [List.getElem?_append_right (by omega), show (L.length + i) * 2 - vals.length = i * 2 by omega]; exact a0, u, by rw [List.getElem?_append_right (by omega), show (L.length + i) * 2 + 1 - vals.length = i * 2 + 1 by omega]; exact a1, a2.below hb (Nat.le_refl _), a3⟩
/-- What a call leaves that hands back segments for reading. -/
def RetQ (w : World) (L : List (Int × List Int)) (e : Ending) (w' : World) : Prop := ∃ v, e = .returned v ∧ IsS w' w'.heap.size v L ∧ Below w.heap.size w w'
theorem c_l5Edit (v u : Value) (L K : List (Int × List Int)) (i : Nat) (w : World) (hi : i < L.length) (hl : L.length ≤ 1048576) (hk : K.length ≤ 1048576) (hv : IsS w w.heap.size v L) (hu : IsS w w.heap.size u K) :
    Calls Try.prog 114 #[v, .int .i64 i, .int .i64 1, u] w (RetQ w (L.take i ++ K ++ L.drop (i + 1))) := by
  obtain ⟨a, cap, hva, hm, hc⟩ := id hv
  subst hva
  obtain ⟨b, off, x, rfl, hb, -⟩ := hc 0 (by omega)
  obtain ⟨au, cu, hua, -⟩ := id hu
  subst hua
  unfold maxLen at hm
  obtain ⟨hm1, hm2, -⟩ := hm
  have bE := RetRow.e1 w (.cells #[] 36)
  have hE : OwnQ (w.alloc (.cells #[] 36)) w.heap.size (.slice (some ⟨w.heap.size, 0, none⟩) 0 0) [] := OwnQ.empty w (Nat.le_refl _) rfl
  have hT := (hv.below bE (Nat.le_refl _)).take (k := i) (by omega)
  have hsE : w.heap.size ≤ (w.alloc (.cells #[] 36)).heap.size := by simp
  have HL1 := hid (show (L.take i).length = i by rw [List.length_take]; omega)
  have q1 : (i : Int) ≤ cap := by omega
  have q2 : (i : Int) + 1 ≤ L.length := by omega
  have q3 : (i : Int) + 1 ≤ cap := by omega
  have q0 : (0 : Int) ≤ (i : Int) := by omega
  have q6 : ((i : Int) + 1).toNat = i + 1 := by omega
  clear hc
  by_cases hcap : cap = i + 1
  · have hln : L.length = i + 1 := by omega
    have HD := hid (show L.drop (i + 1) = [] from List.drop_eq_nil_of_le (by omega))
    have q4 : (cap : Int) = (i : Int) + 1 := by omega
    have q5 : (L.length : Int) = (i : Int) + 1 := by omega
    subst hcap
    have hR : IsS w w.heap.size (.slice (some ⟨b, off, none⟩) 0 0) (L.drop (i + 1)) := by
      rw [HD.out]; exact IsS.zero (Nat.zero_le _) (fun h => rfl)
    rw [hln] at hv ⊢
    go_enter Try.func114, Try.ntmps114
    go_wp2_with (first
      | (at_builtin; refine wpList_appQ rfl _ _ rfl w.heap.size _ [] (by rfl) hE _ _ _ (L.take i) (by rfl) hT (by simp; have := HL1.out; omega) hsE ?_; intro v1 w1 hown1 hb1; simp only [List.nil_append] at hown1; have bb1 := bE.trans hb1; have hu1 := hu.below bb1 (Nat.le_refl _); have hs1 := bb1.size)
      | (at_builtin; refine wpList_appQ rfl _ _ rfl w.heap.size _ (L.take i) (by rfl) hown1 _ _ _ K (by rfl) hu1 (by rw [HL1.out]; omega) hs1 ?_; intro v2 w2 hown2 hb2; have bb2 := bb1.trans hb2; have hr2 := hR.below bb2 (Nat.le_refl _); have hs2 := bb2.size)
      | (at_builtin; refine wpList_appQ rfl _ _ rfl w.heap.size _ (L.take i ++ K) (by rfl) hown2 _ _ _ (L.drop (i + 1)) (by rfl) hr2 (by rw [List.length_append, HL1.out, List.length_drop]; omega) hs2 ?_; intro v3 w3 hown3 hb3))
    have bb3 := bb2.trans hb3
    go_ret
    exact ⟨_, rfl, hown3.isS bb3.size, bb3⟩
  · have q4 : (i : Int) + 1 < cap := by omega
    have q5 : ¬ cap = i + 1 := hcap
    have hR := hv.rest (lo := i + 1) (by omega)
    go_enter Try.func114, Try.ntmps114
    go_wp2_with (first
      | (at_builtin; refine wpList_appQ rfl _ _ rfl w.heap.size _ [] (by rfl) hE _ _ _ (L.take i) (by rfl) hT (by simp; have := HL1.out; omega) hsE ?_; intro v1 w1 hown1 hb1; simp only [List.nil_append] at hown1; have bb1 := bE.trans hb1; have hu1 := hu.below bb1 (Nat.le_refl _); have hs1 := bb1.size)
      | (at_builtin; refine wpList_appQ rfl _ _ rfl w.heap.size _ (L.take i) (by rfl) hown1 _ _ _ K (by rfl) hu1 (by rw [HL1.out]; omega) hs1 ?_; intro v2 w2 hown2 hb2; have bb2 := bb1.trans hb2; have hr2 := hR.below bb2 (Nat.le_refl _); have hs2 := bb2.size)
      | (at_builtin; refine wpList_appQ rfl _ _ rfl w.heap.size _ (L.take i ++ K) (by rfl) hown2 _ _ _ (L.drop (i + 1)) (by rfl) hr2 (by rw [List.length_append, HL1.out, List.length_drop]; omega) hs2 ?_; intro v3 w3 hown3 hb3))
    have bb3 := bb2.trans hb3
    go_ret
    exact ⟨_, rfl, hown3.isS bb3.size, bb3⟩
/-- Whether a segment of a plan can be split at a place, and the plan then. -/
def spOk (L : List (Int × List Int)) (i t : Int) : Bool := PLV L && (inB i 0 ((L.length : Int) - 1) && (inB t 1 (pC L i.toNat - 1) && shOk (pP L i.toNat) t))
def spF (L : List (Int × List Int)) (i : Nat) (t : Int) : List (Int × List Int) := L.take i ++ [(t, pP L i), (pC L i - t, shL (pP L i) t)] ++ L.drop (i + 1)
def spL (L : List (Int × List Int)) (i t : Int) : List (Int × List Int) := if spOk L i t then spF L i.toNat t else []
theorem spL_yes {L : List (Int × List Int)} {i t : Int} (h : spOk L i t = true) : spL L i t = spF L i.toNat t := by simp [spL, h]
theorem spL_no {L : List (Int × List Int)} {i t : Int} (h : spOk L i t = false) : spL L i t = [] := by simp [spL, h]
theorem sp2 (a b : Int) (p q : List Int) : pC [(a, p), (b, q)] 0 = a ∧ pP [(a, p), (b, q)] 0 = p ∧ pC [(a, p), (b, q)] 1 = b ∧ pP [(a, p), (b, q)] 1 = q := ⟨rfl, rfl, rfl, rfl⟩
theorem spF_facts {L : List (Int × List Int)} {i : Nat} {t : Int} (hP : PLV L = true) (hi : i < L.length) : (spF L i t).length ≤ 61 ∧ ∀ k, (pP (spF L i t) k).length ≤ 7 := by
  obtain ⟨⟨h1, h2⟩, h3, -⟩ := PLV_facts hP
  have h7 : ∀ k, (pP L k).length ≤ 7 := by
    intro k
    by_cases hk : k < L.length
    · exact (PV_iff.1 (sgB_yes (h3 k hk)).2.1).2.1
    · rw [(p_ge (by omega)).2]; simp
  refine ⟨by unfold spF; simp; omega, fun k => ?_⟩
  unfold spF
  by_cases hk : k < (L.take i ++ [(t, pP L i), (pC L i - t, shL (pP L i) t)] ++ L.drop (i + 1)).length
  · refine p_cat (P := fun _ _ p => p.length ≤ 7) (fun k hk => ?_) (fun k hk => ?_) k hk
    · refine p_cat (P := fun _ _ p => p.length ≤ 7) (fun k hk => ?_) (fun k hk => ?_) k hk
      · rw [List.length_take] at hk; rw [(p_take (by omega)).2]; exact h7 k
      · have hk2 : k = 0 ∨ k = 1 := by simp at hk; omega
        rcases hk2 with rfl | rfl
        · exact h7 i
        · show (shL (pP L i) t).length ≤ 7; rw [shL_len]; exact h7 i
    · rw [p_drop.2]; exact h7 _
  · rw [(p_ge (by omega)).2]; simp
theorem spL_facts (L : List (Int × List Int)) (i t : Int) : (spL L i t).length ≤ 61 ∧ ∀ k, (pP (spL L i t) k).length ≤ 7 := by
  by_cases h : spOk L i t = true
  · have h2 := h
    simp only [spOk, Bool.and_eq_true, inB_iff] at h2
    rw [spL_yes h]; exact spF_facts h2.1 (by omega)
  · rw [spL_no (by simpa using h)]; exact ⟨by simp, fun k => by simp [pP]⟩
theorem parts_isS (W : World) (x y : Int) (p q : List Int) (au aq : Option Addr) (cu cq : Nat) (hp : IsI W W.heap.size (.slice au p.length cu) p) (hq : IsI W W.heap.size (.slice aq q.length cq) q) (hx : I64 x) (hy : I64 y) :
    IsS (W.alloc (.cells #[.int .i64 x, .slice au p.length cu, .int .i64 y, .slice aq q.length cq] 36)) (W.alloc (.cells #[.int .i64 x, .slice au p.length cu, .int .i64 y, .slice aq q.length cq] 36)).heap.size (.slice (some ⟨W.heap.size, 0, none⟩) 2 2) [(x, p), (y, q)] := by
  have hg : (W.alloc (.cells #[.int .i64 x, .slice au p.length cu, .int .i64 y, .slice aq q.length cq] 36)).heap[W.heap.size]? = some (.cells #[.int .i64 x, .slice au p.length cu, .int .i64 y, .slice aq q.length cq] 36 (0, 0)) := heap_alloc_new _ _
  have b := RetRow.e1 W (.cells #[.int .i64 x, .slice au p.length cu, .int .i64 y, .slice aq q.length cq] 36)
  have hs : (W.alloc (.cells #[.int .i64 x, .slice au p.length cu, .int .i64 y, .slice aq q.length cq] 36)).heap.size = W.heap.size + 1 := by simp
  refine ⟨_, 2, rfl, ⟨Nat.le_refl _, by unfold maxLen; omega, fun h => by cases h⟩, fun i hi => ?_⟩
  have hi2 : i = 0 ∨ i = 1 := by simp at hi; omega
  rcases hi2 with rfl | rfl
  · exact ⟨W.heap.size, 0, _, rfl, by omega, by rw [row_cell hg]; rfl, by rw [row_cell hg]; rfl, (hp.below b (Nat.le_refl _)).up (by omega), hx⟩
  · exact ⟨W.heap.size, 0, _, rfl, by omega, by rw [row_cell hg]; rfl, by rw [row_cell hg]; rfl, (hq.below b (Nat.le_refl _)).up (by omega), hy⟩
theorem spl_cells {w w' : World} {ob : Obj} {b o : Nat} {v0 v1 : Value} {b2 o2 : Nat} {v2 : Value} (hb : Below (w.alloc ob).drew.heap.size (w.alloc ob).drew w') (h0 : w.cell? ⟨b, o, none⟩ = some v0) (h1 : w.cell? ⟨b, o + 1, none⟩ = some v1) (h2 : w.cell? ⟨b2, o2, none⟩ = some v2) :
    w'.cell? ⟨b, o, none⟩ = some v0 ∧ w'.cell? ⟨b, o + 1, none⟩ = some v1 ∧ w'.cell? ⟨b2, o2, none⟩ = some v2 := by
  have hbb : Below w.heap.size w w' := (RetRow.e1 w ob).drew.trans (hb.mono (RetRow.e1 w ob).size)
  have f : ∀ {b o : Nat} {v : Value}, w.cell? ⟨b, o, none⟩ = some v → w'.cell? ⟨b, o, none⟩ = some v := fun h => (hbb.cell (p := ⟨_, _, none⟩) (World.block_lt_of_cell? _ _ h)).trans h
  exact ⟨f h0, f h1, f h2⟩
set_option maxRecDepth 100000 in
set_option maxHeartbeats 800000 in
theorem c_l5RawSplitY (w : World) (v : Value) (L : List (Int × List Int)) (hv : IsS w w.heap.size v L) (hl : L.length ≤ 1048576) (hp : ∀ i, i < L.length → (pP L i).length ≤ 1048576) (i t : Nat) (hP : PLV L = true) (hi : i < L.length) (ht : 1 ≤ t ∧ (t : Int) ≤ pC L i - 1) (hs : shOk (pP L i) t = true) :
    Calls Try.prog 105 #[v, .int .i64 i, .int .i64 t] w fun e w' => ∃ v, e = .returned (.tuple #[v, .bool true]) ∧ IsS w' w'.heap.size v (spF L i t) ∧ Below w.heap.size w w' := by
  have hf := PLV_facts hP
  obtain ⟨⟨s0, s1⟩, -⟩ := sgB_yes (hf.2.1 i hi)
  have h60 := hf.1.2
  have HIN1 := hid (show inB (i : Int) 0 ((L.length : Int) - 1) = true from inB_yes (by omega) (by omega))
  have HIN2 := hid (show inB (t : Int) 1 (pC L i - 1) = true from inB_yes (by omega) (by omega))
  have HSH := hid (shR_yes hs)
  have HP := hid hP
  have HPL := hid hp
  obtain ⟨C, hC⟩ : ∃ C, pC L i = C := ⟨_, rfl⟩
  have HC := hid hC
  rw [hC] at HIN2 s0 s1 ht
  obtain ⟨t0, t1⟩ := ht
  clear hf hP hp hC
  go_enter Try.func105, Try.ntmps105
  go_wp2_with fail
  refine (c_l9OwnListSegment _ L _ hl HPL.out hv).mono ?_
  rintro e w1 ⟨v1, rfl, r1, b1⟩
  have s1' := b1.size
  obtain ⟨a1, c1, hv1⟩ := r1.len
  subst hv1
  go_wp2_with fail
  refine (c_sPlanValid _ L _ hl r1.isS).mono ?_
  rw [HP.out]
  rintro e w2 ⟨rfl, b2⟩
  have s2 := b2.size
  have hv2 := (r1.isS.below b2 (Nat.le_refl _)).up s2
  go_wp2_with fail
  refine (c_l1In _ _ _ _).mono ?_
  rw [HIN1.out]
  rintro e wx ⟨rfl, rfl⟩
  obtain ⟨a', c', hva, hm, hc⟩ := id hv2
  simp only [Value.slice.injEq, true_and] at hva
  obtain ⟨rfl, rfl⟩ := hva
  obtain ⟨b, off, u, rfl, hb, g0, g1, hu, h64⟩ := hc i hi
  rw [HC.out] at g0
  obtain ⟨au, cu, hau⟩ : ∃ a cap, u = .slice a (pP L i).length cap := ⟨_, _, hu.choose_spec.choose_spec.1⟩
  subst hau
  have q0 : (0 : Int) ≤ (i : Int) := by omega
  have q1 : (i : Int) < L.length := by omega
  clear hc hm h64
  go_wp2_with fail
  refine (c_l1In _ _ _ _).mono ?_
  rw [HIN2.out]
  rintro e wx ⟨rfl, rfl⟩
  go_wp2_with fail
  refine (c_sShiftPoly _ _ (pP L i) hu t).mono ?_
  rw [hs]
  rintro e w3 ⟨v3, rfl, r3, b3⟩
  have s3 := b3.size
  rw [HSH.out] at r3
  obtain ⟨a3, c3, hv3⟩ := r3.len
  subst hv3
  have g0' := (b3.cell (p := ⟨b, off + i * 2, none⟩) hb).trans g0
  have g1' := (b3.cell (p := ⟨b, off + i * 2 + 1, none⟩) hb).trans g1
  have hv3' := (hv2.below b3 (Nat.le_refl _)).up s3
  have hu3 := (hu.below b3 (Nat.le_refl _)).up s3
  have bb3 := (b1.trans (b2.mono s1')).trans (b3.mono (by omega))
  clear g0 g1 hv2 b1 b2 b3 r1
  have bF := RetRow.e1 w3 (.cells #[.int .i64 (t : Int), .slice au (pP L i).length cu] 36)
  have hgF := seg_alloc_cells w3 (.int .i64 (t : Int)) (.slice au (pP L i).length cu) 36
  obtain ⟨f0, f1, -⟩ := seg_cells hgF (.int .i64 0)
  have g0 := (bF.cell (p := ⟨b, off + i * 2, none⟩) (show b < w3.heap.size by omega)).trans g0'
  have hszF : (w3.alloc (.cells #[.int .i64 (t : Int), .slice au (pP L i).length cu] 36)).heap.size = w3.heap.size + 1 := by simp
  have hvF := (hv3'.below bF (Nat.le_refl _)).up (show w3.heap.size ≤ (w3.alloc (.cells #[.int .i64 (t : Int), .slice au (pP L i).length cu] 36)).heap.size by omega)
  have huF := (hu3.below bF (Nat.le_refl _)).up (show w3.heap.size ≤ (w3.alloc (.cells #[.int .i64 (t : Int), .slice au (pP L i).length cu] 36)).heap.size by omega)
  have hrF := (r3.isI.below bF (Nat.le_refl _)).up (show w3.heap.size ≤ (w3.alloc (.cells #[.int .i64 (t : Int), .slice au (pP L i).length cu] 36)).heap.size by omega)
  have bbF := bb3.trans (bF.mono (by omega))
  go_wp2_with fail
  generalize hwF : w3.alloc (.cells #[.int .i64 (t : Int), .slice au (pP L i).length cu] 36) = wF at *
  clear hwF bF hgF bb3 hv3' hu3 r3 g0' g1' hu
  have k1 : IntKind.i64.wrap (C - (t : Int)) = C - t := IntWalk.i64_in _ (by omega)
  have HK1 := hid k1
  have hparts := parts_isS wF (t : Int) (C - t) (pP L i) (shL (pP L i) t) au a3 cu c3 huF hrF (by constructor <;> omega) (by constructor <;> omega)
  have hplan := hvF.below (RetRow.e1 wF (.cells #[.int .i64 (t : Int), .slice au (pP L i).length cu, .int .i64 (C - t), .slice a3 (shL (pP L i) t).length c3] 36)) (Nat.le_refl _)
  have hplan2 := hplan.up (show _ ≤ (wF.alloc (.cells #[.int .i64 (t : Int), .slice au (pP L i).length cu, .int .i64 (C - t), .slice a3 (shL (pP L i) t).length c3] 36)).heap.size by simp)
  have bX := bbF.trans ((RetRow.e1 wF (.cells #[.int .i64 (t : Int), .slice au (pP L i).length cu, .int .i64 (C - t), .slice a3 (shL (pP L i) t).length c3] 36)).mono bbF.size)
  have HPA := hid (show IsS (wF.alloc (.cells #[.int .i64 (t : Int), .slice au (pP L i).length cu, .int .i64 (C - t), .slice a3 (shL (pP L i) t).length c3] 36)).drew (wF.alloc (.cells #[.int .i64 (t : Int), .slice au (pP L i).length cu, .int .i64 (C - t), .slice a3 (shL (pP L i) t).length c3] 36)).drew.heap.size (.slice (some ⟨wF.heap.size, 0, none⟩) 2 2) [((t : Int), pP L i), (C - t, shL (pP L i) t)] from hparts)
  have HPB := hid (show IsS (wF.alloc (.cells #[.int .i64 (t : Int), .slice au (pP L i).length cu, .int .i64 (C - t), .slice a3 (shL (pP L i) t).length c3] 36)).drew (wF.alloc (.cells #[.int .i64 (t : Int), .slice au (pP L i).length cu, .int .i64 (C - t), .slice a3 (shL (pP L i) t).length c3] 36)).drew.heap.size (.slice (some ⟨b, off, none⟩) L.length _) L from hplan2)
  have hbx := bX.drew
  clear hparts hplan2 bX bbF hszF
  clear hplan hvF huF hrF
  go_region_held3 (fun w' => w'.cell? ⟨w3.heap.size, 0, none⟩ = some (.int .i64 (t : Int)) ∧ w'.cell? ⟨w3.heap.size, 1, none⟩ = some (.slice au (pP L i).length cu) ∧ w'.cell? ⟨b, off + i * 2, none⟩ = some (.int .i64 C))
    (first | exact ⟨f0, f1, g0⟩ | exact HK.out | go_keep)
    ((go_at_call 114; (with_reducible refine (c_l5Edit _ _ L [((t : Int), pP L i), (C - t, shL (pP L i) t)] i _ hi hl (by simp) HPB.out HPA.out).mono ?_); rintro e w9 ⟨v9, rfl, r9, b9⟩; have HK := hid (spl_cells b9 f0 f1 g0)))
  have b10 := hbx.trans (b9.mono hbx.size)
  have HRES := hid (show IsS w9 w9.heap.size v9 (spF L i t) by unfold spF; rw [HC.out]; exact r9)
  clear r9 b9 HK
  go_wp2
  go_ret2
  exact ⟨_, rfl, HRES.out, b10⟩
/-- What a call leaves that hands back segments for reading and a bool. -/
def RetQB (w : World) (L : List (Int × List Int)) (ok : Bool) (e : Ending) (w' : World) : Prop := ∃ v, e = .returned (.tuple #[v, .bool ok]) ∧ IsS w' w'.heap.size v L ∧ Below w.heap.size w w'
theorem IsS.e0 (w : World) {c : Array Value} (hc : c = #[]) : IsS (w.alloc (.cells c 36)) (w.alloc (.cells c 36)).heap.size (.slice (some ⟨w.heap.size, 0, none⟩) 0 0) [] := IsS.zero (Nat.zero_le _) (fun h => rfl)
set_option maxHeartbeats 800000 in
theorem c_l5RawSplitSegment (w : World) (v : Value) (L : List (Int × List Int)) (hv : IsS w w.heap.size v L) (hl : L.length ≤ 1048576) (hp : ∀ i, i < L.length → (pP L i).length ≤ 1048576) (i t : Int) :
    Calls Try.prog 105 #[v, .int .i64 i, .int .i64 t] w (RetQB w (spL L i t) (spOk L i t)) := by
  have HD : Hid (spOk L i t = (PLV L && (inB i 0 ((L.length : Int) - 1) && (inB t 1 (pC L i.toNat - 1) && shOk (pP L i.toNat) t)))) := rfl
  have HPL := hid hp
  by_cases hP : PLV L = true
  · by_cases hi : inB i 0 ((L.length : Int) - 1) = true
    · obtain ⟨i0, i1⟩ := inB_iff.1 hi
      obtain ⟨n, rfl⟩ : ∃ n : Nat, i = n := ⟨i.toNat, by omega⟩
      rw [show ((n : Nat) : Int).toNat = n by omega] at HD
      have hn : n < L.length := by omega
      by_cases ht : inB t 1 (pC L n - 1) = true
      · obtain ⟨t0, t1⟩ := inB_iff.1 ht
        obtain ⟨m, rfl⟩ : ∃ m : Nat, t = m := ⟨t.toNat, by omega⟩
        by_cases hs : shOk (pP L n) m = true
        · have hok : spOk L n m = true := by rw [HD.out, hP, hi, ht, hs]; rfl
          rw [spL_yes hok, hok]
          exact c_l5RawSplitY w v L hv hl hp n m hP hn ⟨by omega, t1⟩ hs
        · have hs' : shOk (pP L n) m = false := by simpa using hs
          have hok : spOk L n m = false := by rw [HD.out, hs', Bool.and_false, Bool.and_false, Bool.and_false]
          rw [spL_no hok, hok]
          have q1 : (n : Int) < L.length := by omega
          have hsb := (PLV_facts hP).2.1 n hn
          obtain ⟨⟨s0, s1⟩, -⟩ := sgB_yes hsb
          have HI := hid hi
          have HT := hid ht
          have HP := hid hP
          have hl60 := (PLV_facts hP).1.2
          clear hs hp hok hsb hi ht hP
          go_enter Try.func105, Try.ntmps105
          go_wp2_with fail
          refine (c_l9OwnListSegment _ L _ hl HPL.out hv).mono ?_
          rintro e w1 ⟨v1, rfl, r1, b1⟩
          have s1' := b1.size
          obtain ⟨a1, c1, hv1⟩ := r1.len
          subst hv1
          go_wp2_with fail
          refine (c_sPlanValid _ L _ hl r1.isS).mono ?_
          rw [HP.out]
          rintro e w2 ⟨rfl, b2⟩
          have s2 := b2.size
          have hv2 := (r1.isS.below b2 (Nat.le_refl _)).up s2
          go_wp2_with fail
          refine (c_l1In _ _ _ _).mono ?_
          rw [HI.out]
          rintro e wx ⟨rfl, rfl⟩
          obtain ⟨a', c', hva, hm, hc⟩ := id hv2
          simp only [Value.slice.injEq, true_and] at hva
          obtain ⟨rfl, rfl⟩ := hva
          obtain ⟨b, off, u, rfl, hb, g0, g1, hu, h64⟩ := hc n hn
          clear hc hm h64
          go_wp2_with fail
          refine (c_l1In _ _ _ _).mono ?_
          rw [HT.out]
          rintro e wx ⟨rfl, rfl⟩
          go_wp2_with fail
          refine (c_sShiftPoly _ _ (pP L n) hu m).mono ?_
          rw [hs']
          rintro e w3 ⟨v3, rfl, r3, b3⟩
          have bb3 := (b1.trans (b2.mono s1')).trans (b3.mono (by omega))
          go_wp2
          go_ret2
          exact ⟨_, rfl, IsS.e0 w3 rfl, bb3.alloc bb3.size _⟩
      · have ht' : inB t 1 (pC L n - 1) = false := by simpa using ht
        have hok : spOk L n t = false := by rw [HD.out, ht', Bool.false_and, Bool.and_false, Bool.and_false]
        rw [spL_no hok, hok]
        have q1 : (n : Int) < L.length := by omega
        have hsb := (PLV_facts hP).2.1 n hn
        obtain ⟨⟨s0, s1⟩, -⟩ := sgB_yes hsb
        have HI := hid hi
        have HT := hid ht'
        have HP := hid hP
        have hl60 := (PLV_facts hP).1.2
        clear hp hok hsb hi ht ht' hP
        go_enter Try.func105, Try.ntmps105
        go_wp2_with fail
        refine (c_l9OwnListSegment _ L _ hl HPL.out hv).mono ?_
        rintro e w1 ⟨v1, rfl, r1, b1⟩
        have s1' := b1.size
        obtain ⟨a1, c1, hv1⟩ := r1.len
        subst hv1
        go_wp2_with fail
        refine (c_sPlanValid _ L _ hl r1.isS).mono ?_
        rw [HP.out]
        rintro e w2 ⟨rfl, b2⟩
        have s2 := b2.size
        have hv2 := (r1.isS.below b2 (Nat.le_refl _)).up s2
        go_wp2_with fail
        refine (c_l1In _ _ _ _).mono ?_
        rw [HI.out]
        rintro e wx ⟨rfl, rfl⟩
        obtain ⟨a', c', hva, hm, hc⟩ := id hv2
        simp only [Value.slice.injEq, true_and] at hva
        obtain ⟨rfl, rfl⟩ := hva
        obtain ⟨b, off, u, rfl, hb, g0, g1, hu, h64⟩ := hc n hn
        clear hc hm h64
        go_wp2_with fail
        refine (c_l1In _ _ _ _).mono ?_
        rw [HT.out]
        rintro e wx ⟨rfl, rfl⟩
        have bb2 := b1.trans (b2.mono s1')
        go_wp2
        go_ret2
        exact ⟨_, rfl, IsS.e0 w2 rfl, bb2.alloc bb2.size _⟩
    · have hi' : inB i 0 ((L.length : Int) - 1) = false := by simpa using hi
      have hok : spOk L i t = false := by rw [HD.out, hi', Bool.false_and, Bool.and_false]
      rw [spL_no hok, hok]
      have HI := hid hi'
      have HP := hid hP
      have hl60 := (PLV_facts hP).1.2
      clear hp hok hi hi' hP
      go_enter Try.func105, Try.ntmps105
      go_wp2_with fail
      refine (c_l9OwnListSegment _ L _ hl HPL.out hv).mono ?_
      rintro e w1 ⟨v1, rfl, r1, b1⟩
      have s1' := b1.size
      obtain ⟨a1, c1, hv1⟩ := r1.len
      subst hv1
      go_wp2_with fail
      refine (c_sPlanValid _ L _ hl r1.isS).mono ?_
      rw [HP.out]
      rintro e w2 ⟨rfl, b2⟩
      go_wp2_with fail
      refine (c_l1In _ _ _ _).mono ?_
      rw [HI.out]
      rintro e wx ⟨rfl, rfl⟩
      have bb2 := b1.trans (b2.mono s1')
      go_wp2
      go_ret2
      exact ⟨_, rfl, IsS.e0 w2 rfl, bb2.alloc bb2.size _⟩
  · have hP' : PLV L = false := by simpa using hP
    have hok : spOk L i t = false := by rw [HD.out, hP', Bool.false_and]
    rw [spL_no hok, hok]
    clear hp hok hP
    go_enter Try.func105, Try.ntmps105
    go_wp2_with fail
    refine (c_l9OwnListSegment _ L _ hl HPL.out hv).mono ?_
    rintro e w1 ⟨v1, rfl, r1, b1⟩
    have s1' := b1.size
    go_wp2_with fail
    refine (c_sPlanValid _ L _ hl r1.isS).mono ?_
    rw [hP']
    rintro e w2 ⟨rfl, b2⟩
    have bb2 := b1.trans (b2.mono s1')
    go_wp2
    go_ret2
    exact ⟨_, rfl, IsS.e0 w2 rfl, bb2.alloc bb2.size _⟩
theorem c_sSplitSegment (w : World) (v : Value) (L : List (Int × List Int)) (hv : IsS w w.heap.size v L) (hl : L.length ≤ 1048576) (hp : ∀ i, i < L.length → (pP L i).length ≤ 1048576) (i t : Int) :
    Calls Try.prog 87 #[v, .int .i64 i, .int .i64 t] w (RetSB w (spL L i t) (spOk L i t)) := by
  have HF := hid (spL_facts L i t)
  have HPL := hid hp
  clear hp
  go_enter Try.func87, Try.ntmps87
  go_wp2_with fail
  refine (c_l5RawSplitSegment _ _ L hv hl HPL.out i t).mono ?_
  rintro e w1 ⟨v1, rfl, r1, b1⟩
  have s1 := b1.size
  go_wp2_with fail
  refine (c_l9OwnListSegment _ (spL L i t) _ (by have := HF.out.1; omega) (fun i _ => by have := HF.out.2 i; omega) r1).mono ?_
  rintro e w2 ⟨v2, rfl, r2, b2⟩
  go_wp2
  go_ret2
  exact ⟨_, rfl, r2.down s1, b1.trans (b2.mono s1)⟩
end Go.Proofs.Ytkiebajggombiaa
