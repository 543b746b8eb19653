/- What is proved here: contracts of copySegments and SplitSegment (impl). -/
import Derived.Test.YtahbfcnailfkoaaPlnT
set_option linter.unusedVariables false
set_option linter.unusedSimpArgs false
namespace Go.Proofs.Ytahbfcnailfkoaa
open Go.RowKit

/-- An owned slice can be appended to. -/
theorem RwS.own {w : World} {lo hi : Nat} {v : Value} {L : List (Int × List Int)} (h : RwS w lo hi v L) : OwnS w lo hi v L := by
  rcases h with ⟨rfl, rfl⟩ | ⟨g, cap, cur, rfl, hg, hgg, hm, hs, hr⟩
  · exact OwnS.nil _ _ _
  · have hl : (cur.toList.take (L.length * 2)).length = L.length * 2 := by rw [List.length_take]; simp; omega
    refine ⟨cur.toList.take (L.length * 2), hl, ⟨hl, .inr ⟨g, cap, cur, rfl, hg.1, hgg, hm.1, hm.2, hs, rfl⟩⟩, hr.cells fun i hi => ?_⟩
    rw [List.getElem?_toArray, List.getElem?_take, if_pos hi, Array.getElem?_toList]
/-- One more segment, whose polynomial lies ahead of all others. -/
theorem SgR.snocL {w' : World} {lo lo' hi n : Nat} {cur cur' : Array Value} {C : Nat → Int} {P : Nat → List Int} {u : Value} (h : SgR w' lo hi n cur C P) (hc : ∀ i, i < n * 2 → cur'[i]? = cur[i]?)
    (h0 : cur'[n * 2]? = some (.int .i64 (C n))) (h1 : cur'[n * 2 + 1]? = some u) (hu : Rw w' lo' lo u (P n)) (hi6 : I64 (C n)) (hl : lo' ≤ lo) (hh : lo ≤ hi) : SgR w' lo' hi (n + 1) cur' C P := by
  obtain ⟨U, g1, g2⟩ := h
  refine ⟨fun i => if i = n then u else U i, fun i hi => ?_, fun i j hi hj hij k hk => ?_⟩
  · by_cases e : i = n
    · subst e; simp only [if_true]; exact ⟨h0, h1, hu.up hh, hi6⟩
    · simp only [if_neg e]
      rw [hc _ (by omega), hc _ (by omega)]
      have := g1 i (by omega)
      exact ⟨this.1, this.2.1, this.2.2.1.down hl, this.2.2.2⟩
  · by_cases e1 : i = n
    · by_cases e2 : j = n
      · omega
      · simp only [if_pos e1] at hk
        simp only [if_neg e2]
        intro hk2
        have a := hu.2.1 k hk
        have b := ((g1 j (by omega)).2.2.1.1.lt k hk2).1
        omega
    · simp only [if_neg e1] at hk
      by_cases e2 : j = n
      · simp only [if_pos e2]
        intro hk2
        have a := hu.2.1 k hk2
        have b := ((g1 i (by omega)).2.2.1.1.lt k hk).1
        omega
      · simp only [if_neg e2]
        exact g2 i j (by omega) (by omega) hij k hk
/-- append(out, Segment{..}), where the polynomial lies ahead of all others. -/
theorem wpList_appSL {ops : Array Oper} {rest : List Oper} {o : Oper} {a : Act} {Q : Exit → Act → World → Prop} {w : World} (hgd : o.guard = none) (s x : Operand)
    (ho : o.op = .call { callee := .builtin .append, args := #[s, x], argTypes := #[25, 25] })
    (B B' M : Nat) (v : Value) (L : List (Int × List Int)) (c : Int) (au : Option Addr) (p : List Int) (cu : Nat) (hs : a.eval s = v) (hown : OwnS w B M v L) (H : Nat) (hH : w.heap.size = H) (hx : a.eval x = .slice (some ⟨H, 0, none⟩) 1 1)
    (hu : Rw w B' B (.slice au p.length cu) p) (hB : B' ≤ B) (hM : B ≤ M) (hc : I64 c) (hn : L.length ≤ 1099511627776) (hbase : B ≤ w.heap.size)
    (h : ∀ v' w', OwnS w' B' M v' (L ++ [(c, p)]) → Below B w w' → wpList Try.prog ops Q rest (a.put o.dst v') w') :
    wpList Try.prog ops Q (o :: rest) a (w.alloc (.cells #[.int .i64 c, .slice au p.length cu] 40)) := by
  subst hH
  obtain ⟨i0, hi, hz0, hz1, hz2⟩ := info_parts Try.infoSeg3
  obtain ⟨vals, h1, h2, h3⟩ := hown
  refine wpList_appG (news := [.int .i64 c, .slice au p.length cu]) hgd s x 25 ho B 40 i0 _ 2 32 Try.underlying25 hi hz0 hz1 hz2 rfl (by omega) v _ vals hs h2 hx rfl (by simp [Value.oneCell']) hn (by omega) hbase fun v' w' ho' hg hb => ?_
  have g3 := (h3.alloc (.cells #[.int .i64 c, .slice au p.length cu] 40)).grown (h2.alloc _) (by decide) hg
  have gu := (hu.alloc (.cells #[.int .i64 c, .slice au p.length cu] 40)).grown (h2.alloc _) (by decide) hg
  obtain ⟨e1, e2⟩ := p_app1 L c p
  have hd : w'.ownsRow B' 40 2 v' (L.length + 1) (vals ++ [.int .i64 c, .slice au p.length cu]) := by
    refine ⟨ho'.1, ?_⟩
    rcases ho'.2 with hn | ⟨g, cap, cur, rfl, hbg, rest⟩
    · exact .inl hn
    · exact .inr ⟨g, cap, cur, rfl, by omega, rest⟩
  refine h v' w' ⟨vals ++ [.int .i64 c, .slice au p.length cu], by simp [h1]; omega, by simpa using hd, ?_⟩ hb
  rw [List.length_append, List.length_singleton]
  refine SgR.snocL (u := .slice au p.length cu) (g3.congr fun i hi => by rw [(p_appL hi).1, (p_appL hi).2]; exact ⟨rfl, rfl⟩) (fun i hi => ?_) ?_ ?_ (by rw [e2]; exact gu) (by rw [e1]; exact hc) hB hM
  · rw [List.getElem?_toArray, List.getElem?_toArray, List.getElem?_append_left (by omega)]
  · rw [List.getElem?_toArray, e1, List.getElem?_append_right (by omega), h1, Nat.sub_self]; rfl
  · rw [List.getElem?_toArray, List.getElem?_append_right (by omega), h1, show L.length * 2 + 1 - L.length * 2 = 1 by omega]; rfl
/-- Two rows of segments, one behind the other. -/
theorem SgR.cat {w : World} {lo mid hi n m : Nat} {c1 c2 cur : Array Value} {C1 C2 C : Nat → Int} {P1 P2 P : Nat → List Int} (h1 : SgR w lo mid n c1 C1 P1) (h2 : SgR w mid hi m c2 C2 P2) (hl : lo ≤ mid) (hh : mid ≤ hi)
    (e1 : ∀ i, i < n * 2 → cur[i]? = c1[i]?) (e2 : ∀ i, i < m * 2 → cur[n * 2 + i]? = c2[i]?) (f1 : ∀ i, i < n → C i = C1 i ∧ P i = P1 i) (f2 : ∀ i, i < m → C (n + i) = C2 i ∧ P (n + i) = P2 i) : SgR w lo hi (n + m) cur C P := by
  obtain ⟨U, g1, g2⟩ := h1
  obtain ⟨V, k1, k2⟩ := h2
  refine ⟨fun i => if i < n then U i else V (i - n), fun i hi => ?_, fun i j hi hj hij k hk => ?_⟩
  · by_cases e : i < n
    · simp only [if_pos e]
      obtain ⟨a0, a1, a2, a3⟩ := g1 i e
      rw [e1 _ (by omega), e1 _ (by omega), (f1 i e).1, (f1 i e).2]
      exact ⟨a0, a1, a2.up hh, a3⟩
    · simp only [if_neg e]
      obtain ⟨a0, a1, a2, a3⟩ := k1 (i - n) (by omega)
      obtain ⟨z1, z2⟩ := f2 (i - n) (by omega)
      rw [show n + (i - n) = i by omega] at z1 z2
      rw [show i * 2 = n * 2 + (i - n) * 2 by omega, e2 _ (by omega), Nat.add_assoc, e2 _ (by omega), z1, z2]
      exact ⟨a0, a1, a2.down hl, a3⟩
  · by_cases e : i < n
    · simp only [if_pos e] at hk
      by_cases e3 : j < n
      · simp only [if_pos e3]; exact g2 i j e e3 hij k hk
      · simp only [if_neg e3]
        intro hk2
        have a := (g1 i e).2.2.1.2.1 k hk
        have b := ((k1 (j - n) (by omega)).2.2.1.1.lt k hk2).1
        omega
    · simp only [if_neg e] at hk
      by_cases e3 : j < n
      · simp only [if_pos e3]
        intro hk2
        have a := (g1 j e3).2.2.1.2.1 k hk2
        have b := ((k1 (i - n) (by omega)).2.2.1.1.lt k hk).1
        omega
      · simp only [if_neg e3]; exact k2 (i - n) (j - n) (by omega) (by omega) (by omega) k hk
/-- append(out, xs...) of segments that are owned too. -/
theorem wpList_appSS {ops : Array Oper} {rest : List Oper} {o : Oper} {a : Act} {Q : Exit → Act → World → Prop} {w : World} (hgd : o.guard = none) (s x : Operand)
    (ho : o.op = .call { callee := .builtin .append, args := #[s, x], argTypes := #[25, 25] })
    (B M M' : Nat) (v : Value) (L : List (Int × List Int)) (hs : a.eval s = v) (hown : OwnS w B M v L) (u : Value) (K : List (Int × List Int)) (hx : a.eval x = u) (hk : RwS w M M' u K)
    (hB : B ≤ M) (hM : M ≤ M') (hM' : M' ≤ w.heap.size) (hn : L.length + K.length ≤ 1099511627776)
    (h : ∀ v' w', OwnS w' B M' v' (L ++ K) → Below B w w' → wpList Try.prog ops Q rest (a.put o.dst v') w') :
    wpList Try.prog ops Q (o :: rest) a w := by
  obtain ⟨i0, hi, hz0, hz1, hz2⟩ := info_parts Try.infoSeg3
  obtain ⟨vals, h1, h2, h3⟩ := hown
  rcases hk with ⟨rfl, rfl⟩ | ⟨g, cap, cur, rfl, hg, hgg, hm, hcs, hr⟩
  · exact wpList_append_own_none hgd s x 25 ho B 40 i0 2 Try.underlying25 hi v _ _ hs h2 hx (h v w (by rw [List.append_nil]; exact (show OwnS w B M v L from ⟨vals, h1, h2, h3⟩).up hM) (Below.refl _ _))
  · have hl : (cur.toList.take (K.length * 2)).length = K.length * 2 := by rw [List.length_take]; simp; omega
    have hat : ∀ i, i < K.length * 2 → (cur.toList.take (K.length * 2))[i]? = cur[i]? := fun i hi => by rw [List.getElem?_take, if_pos hi, Array.getElem?_toList]
    have hone : ∀ x ∈ cur.toList.take (K.length * 2), x.oneCell' = true := by
      intro x hx
      obtain ⟨j, hj, rfl⟩ := List.mem_iff_getElem.1 hx
      rw [hl] at hj
      have e := hat j hj
      rw [List.getElem?_eq_getElem (by rw [hl]; exact hj)] at e
      obtain ⟨U, hU, -⟩ := hr
      obtain ⟨a0, a1, a2, -⟩ := hU (j / 2) (by omega)
      by_cases h2 : j % 2 = 0
      · rw [show j / 2 * 2 = j by omega] at a0
        rw [a0] at e
        rw [Option.some.inj e]; simp [Value.oneCell']
      · rw [show j / 2 * 2 + 1 = j by omega] at a1
        rw [a1] at e
        rw [Option.some.inj e]
        obtain ⟨au, cu, hau⟩ := a2.len
        rw [hau]; simp [Value.oneCell']
    refine wpList_append_own _ hgd s x 25 ho B 40 i0 _ 2 32 Try.underlying25 hi hz0 hz1 hz2 rfl (by omega) v _ vals hs h2 ⟨g, 0, none⟩ K.length cap (cur.toList.take (K.length * 2)) hx hl ?_ hone (by unfold maxLen; omega) (by omega) (by omega) ?_
    · intro j u hu
      have hj : j < K.length * 2 := by
        rcases Nat.lt_or_ge j (K.length * 2) with h' | h'
        · exact h'
        · rw [List.getElem?_eq_none (by rw [hl]; exact h')] at hu; cases hu
      have e : (⟨g, 0, none⟩ : Addr).add j = ⟨g, j, none⟩ := by unfold Addr.add; split <;> simp_all
      rw [e, row_cell hgg, ← hat j hj]; exact hu
    · intro v' w' hown' hgr _
      have hb : Below B w w' := ⟨hgr.os, hgr.tape, hgr.output, hgr.size, fun k hk => hgr.block k (by omega) (fun e => by have := (World.ownsRow.lt h2 k e.symm).1; omega)⟩
      refine h v' w' ⟨vals ++ cur.toList.take (K.length * 2), by rw [List.length_append, List.length_append, h1, hl]; omega, by rw [List.length_append]; exact hown', ?_⟩ hb
      rw [List.length_append]
      refine SgR.cat (h3.grown h2 (by decide) hgr) (hr.grown h2 (by decide) hgr) hB hM (fun i hi => ?_) (fun i hi => ?_) (fun i hi => p_appL hi) (fun i hi => by have := p_appR (L := L) (M := K) (i := L.length + i) (by omega); rwa [show L.length + i - L.length = i by omega] at this)
      · rw [List.getElem?_toArray, List.getElem?_toArray, List.getElem?_append_left (by omega)]
      · rw [List.getElem?_toArray, List.getElem?_append_right (by omega), show L.length * 2 + i - vals.length = i by omega, hat i hi]
theorem cpy_cells {w w' : World} {b o : Nat} {v0 v1 : Value} (hb : Below w.drew.heap.size w.drew w') (h0 : w.cell? ⟨b, o, none⟩ = some v0) (h1 : w.cell? ⟨b, o + 1, none⟩ = some v1) : w'.cell? ⟨b, o, none⟩ = some v0 ∧ w'.cell? ⟨b, o + 1, none⟩ = some v1 := by
  have f : ∀ {b o : Nat} {v : Value}, w.cell? ⟨b, o, none⟩ = some v → w'.cell? ⟨b, o, none⟩ = some v := fun h => (hb.cell (p := ⟨_, _, none⟩) (World.block_lt_of_cell? _ _ h)).trans h
  exact ⟨f h0, f h1⟩
set_option maxRecDepth 100000 in
theorem c_copySegments (v : Value) (L : List (Int × List Int)) (w : World) (hl : L.length ≤ 1048576) (hp : ∀ i, i < L.length → (pP L i).length ≤ 1048576) (hv : IsS w w.heap.size v L) :
    Calls Try.prog 78 #[v] w (RetS w L) := by
  obtain ⟨a, cap, rfl, hm, hc⟩ := hv
  unfold maxLen at hm
  have HP := hid hp
  obtain ⟨n, hn⟩ : ∃ n, L.length = n := ⟨_, rfl⟩
  have HN := hid hn
  rw [hn] at hc hm hl ⊢
  have hmk := mk_segs n (by omega)
  have HMS := hid (show (madeCells #[Value.int .i64 0, .slice none 0 0] (n * 2)).size = n * 2 from size_madeCells _ _)
  generalize madeCells #[Value.int .i64 0, .slice none 0 0] (n * 2) = mc at *
  clear hn hp
  go_enter Try.func78, Try.ntmps78
  go_wp2
  go_loopw [11] (fun i wr => ∃ (j : Nat) (cur : Array Value), j ≤ n ∧ i = .int .i64 j ∧ Hid (wr.heap[w.heap.size]? = some (.cells cur 40 (0, 0))) ∧ Hid (cur.size = n * 2) ∧ SgR wr (w.heap.size + 1) wr.heap.size j cur (pC L) (pP L) ∧ Below w.heap.size w wr) (fun i _ => n - (intOf i).toNat)
  case atStart => exact ⟨0, mc, Nat.zero_le _, rfl, heap_alloc_new w _, HMS, SgR.zero _ _ _ _ _ _, RetRow.e1 _ _⟩
  case round =>
    obtain ⟨j, cur, hj, rfl, HG, HS, hr, hbel⟩ := hrel
    clear hmk
    by_cases hlt : j < n
    · obtain ⟨b, off, u, rfl, hb, g0, g1, hu, h64⟩ := hc j hlt
      replace g0 := (hbel.cell (p := ⟨b, off + j * 2, none⟩) hb).trans g0
      replace g1 := (hbel.cell (p := ⟨b, off + j * 2 + 1, none⟩) hb).trans g1
      have hgl := (Array.getElem?_eq_some_iff.1 HG.out).1
      have hs := hbel.size
      replace hu := (hu.below hbel (Nat.le_refl _)).up hs
      have hpl := HP.out j (by rw [HN.out]; exact hlt)
      obtain ⟨au, cu, hau⟩ : ∃ a cap, u = .slice a (pP L j).length cap := ⟨_, _, hu.choose_spec.choose_spec.1⟩
      subst hau
      have H64 := hid h64
      have bA := RetRow.e1 wr (.cells #[.int .i64 (pC L j), .slice au (pP L j).length cu] 40)
      have hgA := seg_alloc_cells wr (.int .i64 (pC L j)) (.slice au (pP L j).length cu) 40
      obtain ⟨f0, f1, -⟩ := seg_cells hgA (.int .i64 0)
      have huA := (hu.below bA (Nat.le_refl _)).up (show wr.heap.size ≤ (wr.alloc (.cells #[.int .i64 (pC L j), .slice au (pP L j).length cu] 40)).heap.size by simp)
      have HGA := hid ((bA.block _ hgl).trans HG.out)
      have hrA := hr.below bA (Nat.le_refl _)
      have bbA := hbel.trans (bA.mono hs)
      have hsA : (wr.alloc (.cells #[.int .i64 (pC L j), .slice au (pP L j).length cu] 40)).heap.size = wr.heap.size + 1 := by simp
      have hsA2 : wr.heap.size ≤ (wr.alloc (.cells #[.int .i64 (pC L j), .slice au (pP L j).length cu] 40)).heap.size := by omega
      clear hc h64 hu hbel hr bA hgA
      go_wp2_with fail
      clear hsA
      generalize hwA : wr.alloc (.cells #[.int .i64 (pC L j), .slice au (pP L j).length cu] 40) = wA at *
      clear hwA g0 g1
      have hne : ¬ wr.heap.size = w.heap.size := by omega
      have HUD := hid (show IsI wA.drew wA.drew.heap.size (.slice au (pP L j).length cu) (pP L j) from huA)
      clear huA
      go_region_held3 (fun w' => w'.cell? ⟨wr.heap.size, 0, none⟩ = some (.int .i64 (pC L j)) ∧ w'.cell? ⟨wr.heap.size, 1, none⟩ = some (.slice au (pP L j).length cu))
        (first | exact ⟨cell_other hne (cell_other hne HK.out.1), cell_other hne (cell_other hne HK.out.2)⟩ | exact ⟨cell_other hne HK.out.1, cell_other hne HK.out.2⟩ | exact HK.out | exact ⟨f0, f1⟩ | go_keep)
        ((go_at_call 101; (with_reducible refine (c_CloneI _ (pP L j) _ (by omega) HUD.out).mono ?_); rintro e w9 ⟨v9, rfl, r9, b9⟩; (obtain ⟨a9, c9, hv9⟩ := r9.len); subst hv9; have s9 := b9.size; have HK := hid (cpy_cells b9 f0 f1); have HG9 := hid ((b9.block _ (show w.heap.size < wA.heap.size by omega)).trans (show wA.drew.heap[w.heap.size]? = _ from HGA.out)); have hs3 : j * 2 + 1 < cur.size := (by rw [HS.out]; omega); have c0 : w9.cell? ⟨w.heap.size, j * 2, none⟩ = some (cur[j * 2]'(by omega)) := (by rw [row_cell HG9.out, Array.getElem?_eq_getElem (by omega)]); have c1 : w9.cell? ⟨w.heap.size, j * 2 + 1, none⟩ = some (cur[j * 2 + 1]'(by omega)) := (by rw [row_cell HG9.out, Array.getElem?_eq_getElem (by omega)]); have p0 := row_free HG9.out (j * 2); have p1 := row_free HG9.out (j * 2 + 1)))
      have b10 := bbA.drew.trans (b9.mono (show w.heap.size ≤ wA.drew.heap.size by show w.heap.size ≤ wA.heap.size; omega))
      have hr9 := SgR.below (show SgR wA.drew (w.heap.size + 1) wr.heap.size j cur (pC L) (pP L) from hrA) b9 (show wr.heap.size ≤ wA.drew.heap.size from hsA2)
      have sA : wA.drew.heap.size = wA.heap.size := rfl
      clear b9 bbA hrA HK
      go_wp2
      go_roundw
      case rel =>
        refine ⟨j + 1, _, by omega, by go_num, row_set (row_set HG9.out _ _) _ _, by show _ = _; simpa using HS.out, ?_, (b10.setCell (p := ⟨w.heap.size, j * 2, none⟩) (Nat.le_refl _) _).setCell (p := ⟨w.heap.size, j * 2 + 1, none⟩) (Nat.le_refl _) _⟩
        have k1 := seg_chg w9 w.heap.size (j * 2) (.int .i64 (pC L j))
        have k2 := seg_chg (w9.setCell ⟨w.heap.size, j * 2, none⟩ (.int .i64 (pC L j))) w.heap.size (j * 2 + 1) (.slice a9 (pP L j).length c9)
        refine SgR.snoc (w := w9) (u := .slice a9 (pP L j).length c9) (((hr9.up hsA2).keep k1 (.inr (Nat.le_refl _))).keep k2 (.inr (Nat.le_refl _))) (fun i hi => ?_) ?_ ?_ (((r9.keep k1 (.inr (by omega))).keep k2 (.inr (by omega))).up (by simp)) H64.out (by omega) (by simpa using s9)
        · rw [getSet (by omega), getSet (by omega)]
        · rw [getSet (by omega), getSetS (by omega)]
        · rw [getSetS (by simp; omega)]
      case measure => simp [intOf]; omega
    · obtain rfl : j = n := by omega
      clear hc
      go_wp2
      go_ret
      refine ⟨_, rfl, ?_, hbel⟩
      exact .inr ⟨w.heap.size, j, cur, congrArg (fun q => Value.slice (some ⟨w.heap.size, 0, none⟩) q j) HN.out.symm, ⟨Nat.le_refl _, (Array.getElem?_eq_some_iff.1 HG.out).1⟩, HG.out, ⟨by rw [HN.out]; exact Nat.le_refl _, by unfold maxLen; omega⟩, HS.out, by rw [HN.out]; exact hr.down (Nat.le_succ _)⟩
theorem SgR.setC {w w' : World} {lo hi n g j : Nat} {cur : Array Value} {C : Nat → Int} {P : Nat → List Int} {e : TypeId} {x : Int} (h : SgR w lo hi n cur C P) (hg : w.heap[g]? = some (.cells cur e (0, 0))) (he : e ≠ 3) (hc : Chg g (g + 1) w w') (hj : j < n) (hx : I64 x) :
    SgR w' lo hi n (cur.setIfInBounds (j * 2) (.int .i64 x)) (upd C j x) P := by
  obtain ⟨U, h1, h2⟩ := h
  refine ⟨U, fun i hi => ?_, h2⟩
  obtain ⟨a0, a1, a2, a3⟩ := h1 i hi
  have a4 := a2.keepB hc fun k hk hkk => by
    have : k = g := by omega
    subst this; exact a2.ne hg he hk
  by_cases e1 : i = j
  · subst e1
    have hs : i * 2 < cur.size := by
      rcases Nat.lt_or_ge (i * 2) cur.size with h | h
      · exact h
      · rw [Array.getElem?_eq_none h] at a0; cases a0
    simp only [upd, if_true]
    exact ⟨getSetS hs, by rw [getSet (by omega)]; exact a1, a4, hx⟩
  · simp only [upd, if_neg e1]
    exact ⟨by rw [getSet (by omega)]; exact a0, by rw [getSet (by omega)]; exact a1, a4, a3⟩
theorem sp_set {L : List (Int × List Int)} {i : Nat} (hi : i < L.length) (x : Int) : ∀ k, k < i + 1 → upd (pC (L.take (i + 1))) i x k = pC (L.take i ++ [(x, pP L i)]) k ∧ pP (L.take (i + 1)) k = pP (L.take i ++ [(x, pP L i)]) k := by
  intro k hk
  have hl : (L.take i).length = i := by rw [List.length_take]; omega
  by_cases e : k = i
  · subst e
    obtain ⟨a1, a2⟩ := p_app1 (L.take k) x (pP L k)
    rw [hl] at a1 a2
    rw [a1, a2, (p_take (L := L) (show k < k + 1 by omega)).2]
    simp [upd]
  · obtain ⟨a1, a2⟩ := p_appL (L := L.take i) (M := [(x, pP L i)]) (i := k) (by omega)
    rw [a1, a2, (p_take (L := L) (show k < i by omega)).1, (p_take (L := L) (show k < i by omega)).2, (p_take (L := L) (show k < i + 1 by omega)).2]
    simp [upd, e, (p_take (L := L) (show k < i + 1 by omega)).1]
set_option maxRecDepth 100000 in
set_option maxHeartbeats 1600000 in
theorem c_iSplitY (w : World) (v : Value) (L : List (Int × List Int)) (hv : IsS w w.heap.size v L) (hl : L.length ≤ 1048576) (hp : ∀ i, i < L.length → (pP L i).length ≤ 1048576) (i t : Nat) (hP : PLV L = true) (hi : i < L.length) (ht : 1 ≤ t ∧ (t : Int) ≤ pC L i - 1) (hs : shOk (pP L i) t = true) :
    Calls Try.prog 48 #[v, .int .i64 i, .int .i64 t] w (RetSB w (spF L i t) true) := by
  have hf := PLV_facts hP
  obtain ⟨⟨s0, s1⟩, -⟩ := sgB_yes (hf.2.1 i hi)
  have h60 := hf.1.2
  have HSH := hid (shR_yes hs)
  have HSO := hid hs
  have HP := hid hP
  have HPT := hid (fun k (hk : k < (L.take (i + 1)).length) => (show (pP (L.take (i + 1)) k).length ≤ 1048576 by
    rw [List.length_take] at hk; rw [(p_take (by omega)).2]; exact hp k (by omega)))
  have HPD := hid (fun k (hk : k < (L.drop (i + 1)).length) => (show (pP (L.drop (i + 1)) k).length ≤ 1048576 by
    rw [List.length_drop] at hk; rw [p_drop.2]; exact hp _ (by omega)))
  have HSS := hid (sp_set hi (t : Int))
  obtain ⟨C, hC⟩ : ∃ C, pC L i = C := ⟨_, rfl⟩
  have HC := hid hC
  rw [hC] at s0 s1 ht
  obtain ⟨t0, t1⟩ := ht
  obtain ⟨a, cap, hva, hm, hc⟩ := id hv
  subst hva
  obtain ⟨b, off, u, rfl, hb, g0, g1, hu, -⟩ := hc i hi
  rw [HC.out] at g0
  obtain ⟨au, cu, hau⟩ : ∃ a cap, u = .slice a (pP L i).length cap := ⟨_, _, hu.choose_spec.choose_spec.1⟩
  subst hau
  unfold maxLen at hm
  obtain ⟨hm1, hm2, -⟩ := hm
  have q0 : (0 : Int) ≤ (i : Int) := by omega
  have q1 : (i : Int) < L.length := by omega
  have q2 : (1 : Int) ≤ (t : Int) := by omega
  have q6 : ((i : Int) + 1).toNat = i + 1 := by omega
  have q7 : (i : Int) + 1 ≤ cap := by omega
  clear hf hP hp hC hc hs
  go_enter Try.func48, Try.ntmps48
  go_wp2_with fail
  refine (c_iPlanValid _ L _ hv).mono ?_
  rw [HP.out]
  rintro e w1 ⟨rfl, b1⟩
  have z1 := b1.size
  replace g0 := (b1.cell (p := ⟨b, off + i * 2, none⟩) hb).trans g0
  replace g1 := (b1.cell (p := ⟨b, off + i * 2 + 1, none⟩) hb).trans g1
  replace hu := (hu.below b1 (Nat.le_refl _)).up z1
  have hv1 := (hv.below b1 (Nat.le_refl _)).up z1
  clear hv
  go_wp2_with fail
  refine (c_iShiftPoly _ _ (pP L i) hu t).mono ?_
  rw [HSO.out]
  rintro e w2 ⟨v2, rfl, r2, b2⟩
  have z2 := b2.size
  rw [HSH.out] at r2
  obtain ⟨a2, c2, hv2⟩ := r2.len
  subst hv2
  have HG0 := hid ((b2.cell (p := ⟨b, off + i * 2, none⟩) (show b < w1.heap.size by omega)).trans g0)
  replace hv1 := (hv1.below b2 (Nat.le_refl _)).up z2
  have bb2 := b1.trans (b2.mono z1)
  clear g0 g1 hu b1 b2
  have hvT := hv1.take (k := i + 1) (by omega)
  go_wp2_with fail
  refine (c_copySegments _ (L.take (i + 1)) _ (by rw [List.length_take]; omega) HPT.out hvT).mono ?_
  rintro e w3 ⟨v3, rfl, r3, b3⟩
  have z3 := b3.size
  have HLT := hid (show (L.take (i + 1)).length = i + 1 by rw [List.length_take]; omega)
  rcases r3 with ⟨-, h0⟩ | ⟨g, cap3, cur, rfl, hg, hgg, hm3, hs3, hr3⟩
  · have := HLT.out; rw [h0] at this; simp at this
  rw [HLT.out] at hm3 hr3 ⊢
  have hne : ¬ b = g := by omega
  have hci : i * 2 < cur.size := by omega
  have c0 : w3.cell? ⟨g, i * 2, none⟩ = some (cur[i * 2]'hci) := by rw [row_cell hgg, Array.getElem?_eq_getElem hci]
  have p0 := row_free hgg (i * 2)
  have g3 := (b3.cell (p := ⟨b, off + i * 2, none⟩) (show b < w2.heap.size by omega)).trans HG0.out
  have g4 := cell_other (j := i * 2) (u := .int .i64 (t : Int)) hne g3
  have kk := seg_chg w3 g (i * 2) (.int .i64 (t : Int))
  have hr4 := (hr3.setC hgg (by decide) kk (show i < i + 1 by omega) (x := (t : Int)) (by constructor <;> omega)).congr HSS.out
  have hl4 : (L.take i ++ [((t : Int), pP L i)]).length = i + 1 := by simp; omega
  have hrw4 : RwS (w3.setCell ⟨g, i * 2, none⟩ (.int .i64 (t : Int))) w2.heap.size w3.heap.size (.slice (some ⟨g, 0, none⟩) (i + 1) cap3) (L.take i ++ [((t : Int), pP L i)]) :=
    .inr ⟨g, cap3, _, by rw [hl4], hg, row_set hgg _ _, by rw [hl4]; exact hm3, by simpa using hs3, by rw [hl4]; exact hr4⟩
  have own4 := hrw4.own
  have HL4 := hid hl4
  have r4 := (r2.below b3 (Nat.le_refl _)).keep kk (.inl hg.1)
  have hv4 := ((hv1.below b3 (Nat.le_refl _)).chg kk (.inl hg.1) z3)
  have bb4 := (bb2.trans (b3.mono (by omega))).setCell (p := ⟨g, i * 2, none⟩) (by show w.heap.size ≤ g; omega) (.int .i64 (t : Int))
  have z4 : (w3.setCell ⟨g, i * 2, none⟩ (.int .i64 (t : Int))).heap.size = w3.heap.size := by simp
  have HZ4 := hid z4
  clear hr4 hl4 hrw4 hr3 hgg r2 hvT hv1 bb2 b3 kk g3 hs3 z4
  go_wp2_with (at_builtin; refine wpList_appSL rfl _ _ rfl w2.heap.size w1.heap.size w3.heap.size _ (L.take i ++ [((t : Int), pP L i)]) (C - t) _ (shL (pP L i) t) _ (by rfl) own4 _ HZ4.out (by rfl) r4 z2 z3 (by constructor <;> omega) (by rw [HL4.out]; omega) (by rw [HZ4.out]; exact z3) ?_; intro v5 w5 hown5 hb5; have bb5 := bb4.trans (hb5.mono (show w.heap.size ≤ w2.heap.size by omega)); have s5 := hb5.size; have hv5 := (hv4.below hb5 (Nat.le_refl _)).up (show w2.heap.size ≤ w5.heap.size by have := HZ4.out; omega); have HR5 := hid (hv5.rest (lo := i + 1) (by omega)); have s6 := (show w3.heap.size ≤ w5.heap.size by have := HZ4.out; omega); clear hb5 s5)
  all_goals
    have HDL := hid (show (L.drop (i + 1)).length = L.length - (i + 1) from List.length_drop)
    have HHT : (L.drop (i + 1)).length ≤ 1048576 := by rw [HDL.out]; omega
    have HR6 : cap = i + 1 → IsS w5 w5.heap.size (.slice (some ⟨b, off, none⟩) (L.length - (i + 1)) 0) (L.drop (i + 1)) := fun h => by
      rw [List.drop_eq_nil_of_le (by omega), show L.length - (i + 1) = 0 by omega]; exact IsS.zero (Nat.zero_le _) (fun h => rfl)
    have HFF := hid (show L.take i ++ [((t : Int), pP L i)] ++ [(C - (t : Int), shL (pP L i) t)] ++ L.drop (i + 1) = spF L i t by unfold spF; rw [HC.out]; simp)
    have HLN := hid (show (L.take i ++ [((t : Int), pP L i)] ++ [(C - (t : Int), shL (pP L i) t)]).length = i + 2 by rw [List.length_append, HL4.out]; rfl)
    first
      | with_reducible refine (c_copySegments _ (L.drop (i + 1)) _ HHT HPD.out HR5.out).mono ?_
      | with_reducible refine (c_copySegments _ (L.drop (i + 1)) _ HHT HPD.out (HR6 (by omega))).mono ?_
    rintro e w6 ⟨v6, rfl, r6, b6⟩
    have z6 := b6.size
    have own6 := (hown5.below b6 (Nat.le_refl _) s6).up s6
    have bb6 := bb5.trans (b6.mono (by omega))
    have z7 : w1.heap.size ≤ w5.heap.size := by omega
    have h61 : (L.take i ++ [((t : Int), pP L i)] ++ [(C - (t : Int), shL (pP L i) t)]).length + (L.drop (i + 1)).length ≤ 1099511627776 := by rw [HLN.out, HDL.out]; omega
    go_wp2_with (at_builtin; refine wpList_appSS rfl _ _ rfl w1.heap.size w5.heap.size w6.heap.size _ _ (by rfl) own6 v6 (L.drop (i + 1)) (by rfl) r6 z7 z6 (Nat.le_refl _) h61 ?_; intro v7 w7 hown7 hb7)
    have s7 := hb7.size
    rw [HFF.out] at hown7
    go_ret2
    exact ⟨_, rfl, (hown7.rw s7 (Nat.le_refl _)).down z1, bb6.trans (hb7.mono (by omega))⟩
theorem c_iSplitSegment (w : World) (v : Value) (L : List (Int × List Int)) (hv : IsS w w.heap.size v L) (hl : L.length ≤ 1048576) (hp : ∀ i, i < L.length → (pP L i).length ≤ 1048576) (i t : Int) :
    Calls Try.prog 48 #[v, .int .i64 i, .int .i64 t] w (RetSB w (spL L i t) (spOk L i t)) := by
  have HD : Hid (spOk L i t = (PLV L && (inB i 0 ((L.length : Int) - 1) && (inB t 1 (pC L i.toNat - 1) && shOk (pP L i.toNat) t)))) := rfl
  obtain ⟨a, cap, hva, hm, hc⟩ := id hv
  subst hva
  by_cases hP : PLV L = true
  · by_cases hi : inB i 0 ((L.length : Int) - 1) = true
    · obtain ⟨i0, i1⟩ := inB_iff.1 hi
      obtain ⟨n, rfl⟩ : ∃ n : Nat, i = n := ⟨i.toNat, by omega⟩
      rw [show ((n : Nat) : Int).toNat = n by omega] at HD
      have hn : n < L.length := by omega
      by_cases ht : inB t 1 (pC L n - 1) = true
      · obtain ⟨t0, t1⟩ := inB_iff.1 ht
        obtain ⟨m, rfl⟩ : ∃ m : Nat, t = m := ⟨t.toNat, by omega⟩
        by_cases hs : shOk (pP L n) m = true
        · have hok : spOk L n m = true := by rw [HD.out, hP, hi, ht, hs]; rfl
          rw [spL_yes hok, hok]
          exact c_iSplitY w _ L hv hl hp n m hP hn ⟨by omega, t1⟩ hs
        · have hs' : shOk (pP L n) m = false := by simpa using hs
          have hok : spOk L n m = false := by rw [HD.out, hs', Bool.and_false, Bool.and_false, Bool.and_false]
          rw [spL_no hok, hok]
          have q0 : (0 : Int) ≤ (n : Int) := by omega
          have q1 : (n : Int) < L.length := by omega
          have hsb := (PLV_facts hP).2.1 n hn
          obtain ⟨⟨s0, s1⟩, -⟩ := sgB_yes hsb
          obtain ⟨b, off, u, rfl, hb, g0, g1, hu, h64⟩ := hc n hn
          obtain ⟨au, cu, hau⟩ : ∃ a cap, u = .slice a (pP L n).length cap := ⟨_, _, hu.choose_spec.choose_spec.1⟩
          subst hau
          obtain ⟨C, hC⟩ : ∃ C, pC L n = C := ⟨_, rfl⟩
          rw [hC] at g0 s0 s1 t1
          have HP := hid hP
          have HS := hid hs'
          clear hs hp hok hsb hi ht hP hC hc hm hs' h64
          go_enter Try.func48, Try.ntmps48
          go_wp2_with fail
          refine (c_iPlanValid _ L _ hv).mono ?_
          rw [HP.out]
          rintro e w1 ⟨rfl, b1⟩
          have z1 := b1.size
          replace g0 := (b1.cell (p := ⟨b, off + n * 2, none⟩) hb).trans g0
          replace g1 := (b1.cell (p := ⟨b, off + n * 2 + 1, none⟩) hb).trans g1
          replace hu := (hu.below b1 (Nat.le_refl _)).up z1
          go_wp2_with fail
          refine (c_iShiftPoly _ _ (pP L n) hu m).mono ?_
          rw [HS.out]
          rintro e w2 ⟨v2, rfl, r2, b2⟩
          have bb2 := b1.trans (b2.mono z1)
          go_wp2
          go_ret2
          exact ⟨_, rfl, RwS.nil _ _ _, bb2⟩
      · have ht' : inB t 1 (pC L n - 1) = false := by simpa using ht
        have hok : spOk L n t = false := by rw [HD.out, ht', Bool.false_and, Bool.and_false, Bool.and_false]
        rw [spL_no hok, hok]
        have q0 : (0 : Int) ≤ (n : Int) := by omega
        have q1 : (n : Int) < L.length := by omega
        have hsb := (PLV_facts hP).2.1 n hn
        obtain ⟨⟨s0, s1⟩, -⟩ := sgB_yes hsb
        obtain ⟨b, off, u, rfl, hb, g0, g1, hu, h64⟩ := hc n hn
        have htt : t < 1 ∨ pC L n - 1 < t := by
          rcases Int.lt_or_le t 1 with h | h
          · exact .inl h
          · refine .inr (Int.not_le.1 fun h2 => ht (inB_yes h h2))
        obtain ⟨C, hC⟩ : ∃ C, pC L n = C := ⟨_, rfl⟩
        rw [hC] at g0 s0 s1 htt
        have HP := hid hP
        clear hp hok hsb hi ht hP hC hc hm h64 g1 hu ht'
        by_cases h1 : t < 1
        · clear htt
          go_enter Try.func48, Try.ntmps48
          go_wp2_with fail
          refine (c_iPlanValid _ L _ hv).mono ?_
          rw [HP.out]
          rintro e w1 ⟨rfl, b1⟩
          go_wp2
          go_ret2
          exact ⟨_, rfl, RwS.nil _ _ _, b1⟩
        · have h2 : C - 1 < t := by omega
          have h3 : 1 ≤ t := by omega
          clear htt
          go_enter Try.func48, Try.ntmps48
          go_wp2_with fail
          refine (c_iPlanValid _ L _ hv).mono ?_
          rw [HP.out]
          rintro e w1 ⟨rfl, b1⟩
          replace g0 := (b1.cell (p := ⟨b, off + n * 2, none⟩) hb).trans g0
          go_wp2
          go_ret2
          exact ⟨_, rfl, RwS.nil _ _ _, b1⟩
    · have hi' : inB i 0 ((L.length : Int) - 1) = false := by simpa using hi
      have hok : spOk L i t = false := by rw [HD.out, hi', Bool.false_and, Bool.and_false]
      rw [spL_no hok, hok]
      have hii : i < 0 ∨ (L.length : Int) ≤ i := by
        rcases Int.lt_or_le i 0 with h | h
        · exact .inl h
        · refine .inr ?_
          rcases Int.lt_or_le i L.length with h2 | h2
          · exact absurd (inB_yes h (by omega)) hi
          · exact h2
      have HP := hid hP
      clear hp hok hi hP hc hm hi'
      by_cases h1 : i < 0
      · clear hii
        go_enter Try.func48, Try.ntmps48
        go_wp2_with fail
        refine (c_iPlanValid _ L _ hv).mono ?_
        rw [HP.out]
        rintro e w1 ⟨rfl, b1⟩
        go_wp2
        go_ret2
        exact ⟨_, rfl, RwS.nil _ _ _, b1⟩
      · have h2 : (L.length : Int) ≤ i := by omega
        clear hii
        go_enter Try.func48, Try.ntmps48
        go_wp2_with fail
        refine (c_iPlanValid _ L _ hv).mono ?_
        rw [HP.out]
        rintro e w1 ⟨rfl, b1⟩
        go_wp2
        go_ret2
        exact ⟨_, rfl, RwS.nil _ _ _, b1⟩
  · have hP' : PLV L = false := by simpa using hP
    have hok : spOk L i t = false := by rw [HD.out, hP']; rfl
    rw [spL_no hok, hok]
    clear hp hok hP hc hm
    go_enter Try.func48, Try.ntmps48
    go_wp2_with fail
    refine (c_iPlanValid _ L _ hv).mono ?_
    rw [hP']
    rintro e w1 ⟨rfl, b1⟩
    go_wp2
    go_ret2
    exact ⟨_, rfl, RwS.nil _ _ _, b1⟩
end Go.Proofs.Ytahbfcnailfkoaa
