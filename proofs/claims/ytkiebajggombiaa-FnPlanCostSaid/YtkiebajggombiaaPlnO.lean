/- What is proved here: segments that are appended to a slice of the call's own, and the contracts of spec's copies of segments. -/
import Derived.Test.YtkiebajggombiaaPlnP
import Derived.Test.YtkiebajggombiaaPlnL
set_option linter.unusedVariables false
set_option linter.unusedSimpArgs false
namespace Go.Proofs.Ytkiebajggombiaa
open Go.RowKit

/-- v is nil or a slice over a block of the call's own (from B on) of segments, whose polynomials lie in blocks of their own from B on and below M. -/
def OwnS (w : World) (B M : Nat) (v : Value) (L : List (Int × List Int)) : Prop :=
  ∃ vals : List Value, vals.length = L.length * 2 ∧ w.ownsRow B 36 2 v L.length vals ∧ SgR w B M L.length vals.toArray (pC L) (pP L)
theorem OwnS.nil (w : World) (B M : Nat) : OwnS w B M (.slice none 0 0) [] := ⟨[], rfl, World.ownsRow_nil _ _ _ _, SgR.zero _ _ _ _ _ _⟩
theorem OwnS.empty (w : World) {B M : Nat} {c : Array Value} (hB : B ≤ w.heap.size) (hc : c = #[]) : OwnS (w.alloc (.cells c 36)) B M (.slice (some ⟨w.heap.size, 0, none⟩) 0 0) [] := by
  subst hc; exact ⟨[], rfl, World.ownsRow_made w #[] 0 hB (by unfold maxLen; omega) (by simp), SgR.zero _ _ _ _ _ _⟩
theorem OwnS.below {w w' : World} {B M B' : Nat} {v : Value} {L : List (Int × List Int)} (h : OwnS w B M v L) (hb : Below B' w w') (hs : w.heap.size ≤ B') (hM : M ≤ B') : OwnS w' B M v L := by
  obtain ⟨vals, h1, h2, h3⟩ := h
  exact ⟨vals, h1, ownsRow_of_block h2 fun k hk => hb.block k (by have := (h2.lt k hk).2; omega), h3.below hb hM⟩
theorem OwnS.up {w : World} {B M M' : Nat} {v : Value} {L : List (Int × List Int)} (h : OwnS w B M v L) (hM : M ≤ M') : OwnS w B M' v L := by
  obtain ⟨vals, h1, h2, h3⟩ := h
  exact ⟨vals, h1, h2, h3.up hM⟩
theorem OwnS.lt {w : World} {B M : Nat} {v : Value} {L : List (Int × List Int)} (h : OwnS w B M v L) : ∀ k, v.ownBlock = some k → B ≤ k ∧ k < w.heap.size := by
  obtain ⟨vals, h1, h2, h3⟩ := h; exact h2.lt
theorem OwnS.rw {w : World} {B M hi : Nat} {v : Value} {L : List (Int × List Int)} (h : OwnS w B M v L) (hM : M ≤ hi) (hh : w.heap.size ≤ hi) : RwS w B hi v L := by
  obtain ⟨vals, h1, h2, h3⟩ := h
  have hlt := h2.lt
  rcases h2.2 with ⟨rfl, hn⟩ | ⟨g, cap, cur, rfl, hbg, hgg, hnc, hcm, hcs, hct⟩
  · exact .inl ⟨by simp only [hn], List.eq_nil_of_length_eq_zero hn⟩
  · refine .inr ⟨g, cap, cur, rfl, ⟨hbg, by have := (hlt g rfl).2; omega⟩, hgg, ⟨hnc, hcm⟩, hcs, (h3.up hM).cells fun i hi => ?_⟩
    have e : vals[i]? = cur.toList[i]? := by rw [← hct, List.getElem?_take, if_pos hi]
    rw [← Array.getElem?_toList, ← e]; simp
/-- One more segment, whose polynomial lies past all others. -/
theorem OwnS.snoc {w w' : World} {B M M' : Nat} {v' : Value} {L : List (Int × List Int)} {vals : List Value} {c : Int} {u : Value} {p : List Int} (h1 : vals.length = L.length * 2) (h3 : SgR w' B M L.length vals.toArray (pC L) (pP L))
    (ho : w'.ownsRow B 36 2 v' (L.length + 1) (vals ++ [.int .i64 c, u])) (hu : Rw w' M M' u p) (hB : B ≤ M) (hM : M ≤ M') (hc : I64 c) : OwnS w' B M' v' (L ++ [(c, p)]) := by
  refine ⟨vals ++ [.int .i64 c, u], by simp [h1]; omega, by simpa using ho, ?_⟩
  rw [List.length_append, List.length_singleton]
  obtain ⟨e1, e2⟩ := p_app1 L c p
  refine SgR.snoc (w := w) (u := u) (h3.congr fun i hi => by rw [(p_appL hi).1, (p_appL hi).2]; exact ⟨rfl, rfl⟩) (fun i hi => ?_) ?_ ?_ (by rw [e2]; exact hu) (by rw [e1]; exact hc) hB hM
  · rw [List.getElem?_toArray, List.getElem?_toArray, List.getElem?_append_left (by omega)]
  · rw [List.getElem?_toArray, e1, List.getElem?_append_right (by omega), h1, Nat.sub_self]; rfl
  · rw [List.getElem?_toArray, List.getElem?_append_right (by omega), h1, show L.length * 2 + 1 - L.length * 2 = 1 by omega]; rfl
theorem SgR.alloc {w : World} {lo hi n : Nat} {cur : Array Value} {C : Nat → Int} {P : Nat → List Int} (h : SgR w lo hi n cur C P) (o : Obj) : SgR (w.alloc o) lo hi n cur C P := by
  obtain ⟨U, h1, h2⟩ := h
  exact ⟨U, fun i hi => ⟨(h1 i hi).1, (h1 i hi).2.1, (h1 i hi).2.2.1.alloc o, (h1 i hi).2.2.2⟩, h2⟩
theorem SgR.grown {w w' : World} {lo hi n base size m : Nat} {cur : Array Value} {C : Nat → Int} {P : Nat → List Int} {e : TypeId} {v : Value} {vs : List Value} (h : SgR w lo hi n cur C P) (hv : w.ownsRow base e size v m vs) (he : e ≠ 3) (hg : w.grownBy w' v.ownBlock) : SgR w' lo hi n cur C P := by
  obtain ⟨U, h1, h2⟩ := h
  exact ⟨U, fun i hi => ⟨(h1 i hi).1, (h1 i hi).2.1, (h1 i hi).2.2.1.grown hv he hg, (h1 i hi).2.2.2⟩, h2⟩
theorem wpList_appS {ops : Array Oper} {rest : List Oper} {o : Oper} {a : Act} {Q : Exit → Act → World → Prop} {w : World} (hgd : o.guard = none) (s x : Operand)
    (ho : o.op = .call { callee := .builtin .append, args := #[s, x], argTypes := #[29, 29] })
    (B M M' : Nat) (v : Value) (L : List (Int × List Int)) (c : Int) (au : Option Addr) (p : List Int) (cu : Nat) (hs : a.eval s = v) (hown : OwnS w B M v L) (H : Nat) (hH : w.heap.size = H) (hx : a.eval x = .slice (some ⟨H, 0, none⟩) 1 1)
    (hu : Rw w M M' (.slice au p.length cu) p) (hB : B ≤ M) (hM : M ≤ M') (hc : I64 c) (hn : L.length ≤ 1099511627776) (hbase : B ≤ w.heap.size)
    (h : ∀ v' w', OwnS w' B M' v' (L ++ [(c, p)]) → Below B w w' → (∀ k, k < w.heap.size → v.ownBlock ≠ some k → w'.heap[k]? = w.heap[k]?) → wpList Try.prog ops Q rest (a.put o.dst v') w') :
    wpList Try.prog ops Q (o :: rest) a (w.alloc (.cells #[.int .i64 c, .slice au p.length cu] 36)) := by
  subst hH
  obtain ⟨i0, hi, hz0, hz1, hz2⟩ := info_parts Try.infoSeg3
  obtain ⟨vals, h1, h2, h3⟩ := hown
  refine wpList_appG (news := [.int .i64 c, .slice au p.length cu]) hgd s x 29 ho B 36 i0 _ 2 32 Try.underlying29 hi hz0 hz1 hz2 rfl (by omega) v _ vals hs h2 hx rfl (by simp [Value.oneCell']) hn (by omega) hbase fun v' w' ho' hg hb => ?_
  exact h v' w' (OwnS.snoc (w := w) h1 ((h3.alloc _).grown (h2.alloc _) (by decide) hg) ho' ((hu.alloc _).grown (h2.alloc _) (by decide) hg) hB hM hc) hb fun k hk hne => (hg.block k (by simp; omega) (fun e => hne e.symm)).trans (Below.heap_alloc _ _ _ hk)
theorem c_l9OwnSegment (c : Int) (v : Value) (xs : List Int) (hl : xs.length ≤ 1048576) (w : World) (hv : IsI w w.heap.size v xs) :
    Calls Try.prog 96 #[.agg #[.int .i64 c, v]] w (RetG w c xs) := by
  have HR := hid hv.range
  obtain ⟨av, cv, hav⟩ : ∃ a cap, v = .slice a xs.length cap := ⟨_, _, hv.choose_spec.choose_spec.1⟩
  subst hav
  obtain ⟨wA, hwA⟩ : ∃ x, x = ((w.alloc (.cells #[.int .i64 c, .slice av xs.length cv] 36)).alloc (.cells #[.int .i64 0, .slice none 0 0] 36)).alloc (.cells #[] 3) := ⟨_, rfl⟩
  have hsA : wA.heap.size = w.heap.size + 1 + 1 + 1 := by rw [hwA]; simp
  have bA : Below w.heap.size w wA := by rw [hwA]; exact ((RetRow.e1 w _).alloc (by simp) _).alloc (by simp; omega) _
  have hvA : IsI wA wA.heap.size (.slice av xs.length cv) xs := (hv.below bA (Nat.le_refl _)).up (by omega)
  have g0 : wA.heap[w.heap.size]? = some (.cells #[.int .i64 c, .slice av xs.length cv] 36 (0, 0)) := by
    rw [hwA, Below.heap_alloc _ _ _ (by simp; omega), Below.heap_alloc _ _ _ (by simp)]
    exact heap_alloc_new _ _
  have g1 : wA.heap[w.heap.size + 1]? = some (.cells #[.int .i64 0, .slice none 0 0] 36 (0, 0)) := by
    rw [hwA, Below.heap_alloc _ _ _ (by simp), ← show (w.alloc (.cells #[.int .i64 c, .slice av xs.length cv] 36)).heap.size = w.heap.size + 1 by simp]
    exact heap_alloc_new _ _
  have hown : OwnI wA (w.heap.size + 1 + 1) (.slice (some ⟨w.heap.size + 1 + 1, 0, none⟩) 0 0) [] := by
    rw [hwA]
    have e : ((w.alloc (.cells #[.int .i64 c, .slice av xs.length cv] 36)).alloc (.cells #[.int .i64 0, .slice none 0 0] 36)).heap.size = w.heap.size + 1 + 1 := by simp
    rw [← e]
    exact OwnI.empty _ (Nat.le_refl _) rfl
  have G0 := hid g0
  have G1 := hid g1
  clear g0 g1 hv
  subst hwA
  go_enter Try.func96, Try.ntmps96
  go_wp2_with (at_builtin; refine wpList_appIs rfl _ _ _ rfl Try.underlying23 Try.infoInt (w.heap.size + 1 + 1) (.slice (some ⟨w.heap.size + 1 + 1, 0, none⟩) 0 0) [] (by rfl) hown _ _ xs hvA (by rfl) (by simp; omega) (by omega) ?_; intro v2 w2 hown2 b2; simp only [List.nil_append] at hown2; obtain ⟨a2, c2, hv2⟩ := (hown2.rw HR.out (Nat.le_refl _)).len; subst hv2; have G0' := hid ((b2.block w.heap.size (by omega)).trans G0.out); have G1' := hid ((b2.block (w.heap.size + 1) (by omega)).trans G1.out); have z1 := (seg_cells G0'.out (.int .i64 0)).2.1; have f1 := row_free G0'.out 1; have hs2 := b2.size; have HR1 := hid (row_set G0'.out 1 (.slice a2 xs.length c2)); have HR2 := hid (show (w2.setCell ⟨w.heap.size, 1, none⟩ (.slice a2 xs.length c2)).heap[w.heap.size + 1]? = _ from (Below.heap_setCell _ _ _ _ (by simp)).trans G1'.out); obtain ⟨p0, p1, p2, p3, -, -⟩ := seg_cells (c := .int .i64 c) (v := .slice a2 xs.length c2) (by simpa using HR1.out) (.int .i64 0); obtain ⟨q0, q1, q2, q3, q4, q5⟩ := seg_cells HR2.out (.int .i64 c); have HF := hid (seg_set HR2.out (.int .i64 c) (.slice a2 xs.length c2)))
  have b3 := bA.trans (b2.mono (by omega))
  have r2 := hown2.rw HR.out (Nat.le_refl _)
  have r3 := ((r2.keep (seg_chg w2 w.heap.size 1 (.slice a2 xs.length c2)) (.inr (by omega))).keep (seg_chg _ (w.heap.size + 1) 0 (.int .i64 c)) (.inr (by omega))).keep (seg_chg _ (w.heap.size + 1) 1 (.slice a2 xs.length c2)) (.inr (by omega))
  (try simp only [Exit.inBlock, Exit.then])
  refine bodyPost_seg1 rfl rfl (by rfl) HF.out ?_
  exact ⟨a2, c2, rfl, (r3.down (by omega)).up (by simp), ((b3.setCell (p := ⟨w.heap.size, 1, none⟩) (Nat.le_refl _) _).setCell (p := ⟨w.heap.size + 1, 0, none⟩) (by show w.heap.size ≤ w.heap.size + 1; omega) _).setCell (p := ⟨w.heap.size + 1, 1, none⟩) (by show w.heap.size ≤ w.heap.size + 1; omega) _⟩
theorem c_l9OwnListSegment (v : Value) (L : List (Int × List Int)) (w : World) (hl : L.length ≤ 1048576) (hp : ∀ i, i < L.length → (pP L i).length ≤ 1048576) (hv : IsS w w.heap.size v L) :
    Calls Try.prog 66 #[v] w (RetS w L) := by
  obtain ⟨a, cap, rfl, hm, hc⟩ := hv
  unfold maxLen at hm
  have HP := hid hp
  obtain ⟨n, hn⟩ : ∃ n, L.length = n := ⟨_, rfl⟩
  have HN := hid hn
  rw [hn] at hc hm hl ⊢
  clear hn hp
  go_enter Try.func66, Try.ntmps66
  go_wp2
  go_loopw [3, 9] (fun o i wr => ∃ (j : Nat), j ≤ n ∧ i = .int .i64 j ∧ OwnS wr w.heap.size wr.heap.size o (L.take j) ∧ Below w.heap.size w wr) (fun _ i _ => n - (intOf i).toNat)
  case atStart => exact ⟨0, Nat.zero_le _, rfl, OwnS.empty _ (Nat.le_refl _) rfl, RetRow.e1 _ _⟩
  case round =>
    obtain ⟨j, hj, rfl, hown, hbel⟩ := hrel
    have hs := hbel.size
    by_cases hlt : j < n
    · obtain ⟨b, off, u, rfl, hb, g0, g1, hu, h64⟩ := hc j hlt
      replace g0 := (hbel.cell (p := ⟨b, off + j * 2, none⟩) hb).trans g0
      replace g1 := (hbel.cell (p := ⟨b, off + j * 2 + 1, none⟩) hb).trans g1
      replace hu := (hu.below hbel (Nat.le_refl _)).up hs
      have hpl := HP.out j (by rw [HN.out]; exact hlt)
      obtain ⟨au, cu, hau⟩ : ∃ a cap, u = .slice a (pP L j).length cap := ⟨_, _, hu.choose_spec.choose_spec.1⟩
      subst hau
      have H64 := hid h64
      have HTK := hid (take_p (L := L) (k := j) (by rw [HN.out]; exact hlt))
      have hlen : (L.take j).length ≤ 1048576 := by rw [List.length_take]; omega
      have hu1 := (hu.alloc (.cells #[.int .i64 (pC L j), .slice au (pP L j).length cu] 36) (Nat.le_refl _)).up (show wr.heap.size ≤ (wr.alloc (.cells #[.int .i64 (pC L j), .slice au (pP L j).length cu] 36)).heap.size by simp)
      have bA := RetRow.e1 wr (.cells #[.int .i64 (pC L j), .slice au (pP L j).length cu] 36)
      have hown1 := hown.below bA (Nat.le_refl _) (Nat.le_refl _)
      have b1 := hbel.trans (bA.mono hs)
      have hs1 := b1.size
      have hsA : (wr.alloc (.cells #[.int .i64 (pC L j), .slice au (pP L j).length cu] 36)).heap.size = wr.heap.size + 1 := by simp
      clear hc h64 hu hbel bA hown
      go_wp2_with fail
      refine (c_l9OwnSegment _ _ (pP L j) hpl _ hu1).mono ?_
      rintro e w9 ⟨a9, c9, rfl, r9, b9⟩
      have s9 := b9.size
      have hown9 := hown1.below (b9.mono (show wr.heap.size + 1 ≤ _ by omega)) (by omega) (by omega)
      have b10 := b1.trans (b9.mono hs1)
      have hs10 := b10.size
      have r10 := r9.down (show wr.heap.size ≤ _ by omega)
      clear g0 g1 hu1 b1 b9 hown1 r9
      go_wp2_with (at_builtin; refine wpList_appS rfl _ _ rfl w.heap.size wr.heap.size w9.heap.size _ (L.take j) _ _ (pP L j) _ (by rfl) hown9 _ rfl (by rfl) r10 (by omega) (by omega) H64.out (by omega) hs10 ?_; intro v11 w11 hown11 hb11 _)
      have s11 := hb11.size
      go_roundw
      case rel => exact ⟨j + 1, by omega, by go_num, by rw [HTK.out]; exact hown11.up (by omega), b10.trans hb11⟩
      case measure => simp [intOf]; omega
    · obtain rfl : j = n := by omega
      have HTK := hid (show L.take j = L from List.take_of_length_le (by rw [HN.out]; exact Nat.le_refl _))
      clear hc
      go_wp2
      go_ret
      rw [HTK.out] at hown
      exact ⟨_, rfl, hown.rw (Nat.le_refl _) (Nat.le_refl _), hbel⟩
end Go.Proofs.Ytkiebajggombiaa
