/- What is proved here: those statements of PeI that this claim needs. -/
import Derived.Test.YtlinkeemccnfmaaGreatDoorSq2
import Derived.Test.YtlinkeemccnfmaaGreatDoorPeC
import Derived.Test.YtlinkeemccnfmaaGreatDoorEof
set_option linter.unusedVariables false
set_option linter.unusedSimpArgs false
set_option maxRecDepth 100000
namespace Go.Proofs.YtlinkeemccnfmaaGreatDoor
open Go.RowKit Go.Shelf
attribute [local go_sem] Oper.semAt_some
structure Gr (lo : Nat) (W W' : World) : Prop where
  os : W'.os = W.os
  tape : W'.tape = W.tape
  output : W'.output = W.output
  size : W.heap.size ≤ W'.heap.size
  low : ∀ k, k < W.heap.size → k < lo → W'.heap[k]? = W.heap[k]?
  others : ∀ (k : Nat) (o : Obj), W.heap[k]? = some o → o.isCells = false → W'.heap[k]? = some o
theorem Gr.refl (lo : Nat) (W : World) : Gr lo W W := ⟨rfl, rfl, rfl, Nat.le_refl _, fun _ _ _ => rfl, fun _ _ h _ => h⟩
theorem Gr.trans {lo : Nat} {A B C : World} (h : Gr lo A B) (k : Gr lo B C) : Gr lo A C :=
  ⟨k.os.trans h.os, k.tape.trans h.tape, k.output.trans h.output, Nat.le_trans h.size k.size, fun j hj hl => (k.low j (Nat.lt_of_lt_of_le hj h.size) hl).trans (h.low j hj hl), fun j o hj ho => k.others j o (h.others j o hj ho) ho⟩
theorem Gr.below {lo : Nat} {A B C : World} (h : Gr lo A B) (k : Below B.heap.size B C) : Gr lo A C :=
  h.trans ⟨k.os, k.tape, k.output, k.size, fun j hj _ => k.block j hj, fun j o hj _ => (k.block j (Array.getElem?_eq_some_iff.1 hj).1).trans hj⟩
theorem Gr.alloc {lo : Nat} {A B : World} (h : Gr lo A B) (o : Obj) : Gr lo A (B.alloc o) := h.below (RetRow.e1 B o)
theorem Gr.bel {lo : Nat} {w A B : World} (h : Below lo w A) (k : Gr lo A B) (hl : lo ≤ A.heap.size) : Below lo w B :=
  h.trans ⟨k.os, k.tape, k.output, k.size, fun j hj => k.low j (by omega) hj⟩
theorem Gr.ko {lo : Nat} {A B : World} (h : Gr lo A B) : KeepsOthers A B := ⟨h.size, h.others⟩
theorem Gr.bel2 {lo n0 : Nat} {w A B : World} (h : Below n0 w A) (k : Gr lo A B) (hl : n0 ≤ lo) (ha : n0 ≤ A.heap.size) : Below n0 w B :=
  h.trans ⟨k.os, k.tape, k.output, k.size, fun j hj => k.low j (by omega) (by omega)⟩
theorem wpListIn_app3 {F : Fence} {n : Nat} {ops : Array Oper} {rest : List Oper} {o : Oper} {a : Act} {Q : Exit → Act → World → Prop} {W : World} {x y z : Int} (hgd : o.guard = none) (s t : Operand) (T : TypeId)
    (ho : o.op = .call { callee := .builtin .append, args := #[s, t], argTypes := #[T, T] }) (hT : Tryz.prog.underlying T = some (.slice 67))
    (lo : Nat) (v : Value) (m : Nat) (L : List Int) (hs : a.eval s = v) (hx : a.eval t = .slice (some ⟨W.heap.size, 0, none⟩) 1 1) (hown : OwnE W lo v m L) (hm : m ≤ 1000000000) (hlo : lo ≤ W.heap.size)
    (h : ∀ v' W', OwnE W' lo v' (m + 1) (L ++ [x, y, z]) → Gr lo W W' → wpListIn F n Tryz.prog ops Q rest (a.put o.dst v') W') :
    wpListIn F n Tryz.prog ops Q (o :: rest) a (W.alloc (.cells #[.int .i64 x, .int .i64 y, .int .i64 z] 67)) := by
  obtain ⟨i0, hi, hz0, hz1, hz2⟩ := info_parts Tryz.infoErr
  refine wpListIn_append_own _ hgd s t T ho lo 67 i0 _ 3 24 hT hi hz0 hz1 hz2 rfl (by omega) v m (L.map (Value.int .i64)) hs (World.ownsRow.alloc hown _) ⟨W.heap.size, 0, none⟩ 1 1 [.int .i64 x, .int .i64 y, .int .i64 z] hx rfl ?_ (by simp [Value.oneCell']) ?_ ?_ ?_ ?_
  · intro j u hu
    have hadd : (⟨W.heap.size, 0, none⟩ : Addr).add j = ⟨W.heap.size, j, none⟩ := by unfold Addr.add; split <;> simp_all
    rw [hadd, World.cell?_alloc_at _ _ _ _ rfl]
    simpa using hu
  · unfold maxLen; omega
  · omega
  · simp; omega
  · intro v' W' hown' hg _
    refine h v' W' (by unfold OwnE; simpa using hown') (((Gr.refl lo W).alloc _).trans ⟨hg.os, hg.tape, hg.output, hg.size, fun k hk hl => hg.block k hk (fun e => by have := (World.ownsRow.lt hown k e.symm).1; omega), fun k o hk ho => ?_⟩)
    refine (hg.block k (Array.getElem?_eq_some_iff.1 hk).1 (fun e => ?_)).trans hk
    have hr := (World.ownsRow.alloc hown (.cells #[.int .i64 x, .int .i64 y, .int .i64 z] 67)).2
    rcases hr with ⟨rfl, -⟩ | ⟨gg, cap, cur, rfl, -, hgg, -⟩
    · cases e
    · have e2 : k = gg := by simpa [Value.ownBlock] using e
      subst e2
      rw [hgg] at hk; cases hk; cases ho
theorem res_pe {W : World} {n0 : Nat} {v : Value} {b : Bool} {tmps : Array Value} (h0 : W.heap[n0]? = some (.cells #[v] 39 (0, 0))) (h1 : W.heap[n0 + 1]? = some (.cells #[.bool b] 4 (0, 0)))
    (hp : tmps.getD 2 undef = .pointer (some ⟨n0, 0, none⟩)) (hq : tmps.getD 3 undef = .pointer (some ⟨n0 + 1, 0, none⟩)) :
    (results Tryz.f15 tmps).run Tryz.prog W = .ok (.tuple #[v, .bool b]) W := by
  have hp' : tmps[2]?.getD undef = .pointer (some ⟨n0, 0, none⟩) := by rw [← Array.getD_eq_getD_getElem?]; exact hp
  have hq' : tmps[3]?.getD undef = .pointer (some ⟨n0 + 1, 0, none⟩) := by rw [← Array.getD_eq_getD_getElem?]; exact hq
  have c0 : W.cell? ⟨n0, 0, none⟩ = some v := by rw [row_cell h0]; rfl
  have c1 : W.cell? ⟨n0 + 1, 0, none⟩ = some (.bool b) := by rw [row_cell h1]; rfl
  simp [results, Tryz.f15, hp', hq', go_sem, c0, c1]
def peI (n0 : Nat) (w0 : World) (pre : List ByteArray) (W : World) : Prop :=
  ∃ v L, pL pre = some L ∧ W.heap[n0 + 2]? = some (.cells #[v] 39 (0, 0)) ∧ OwnE W (n0 + 6) v pre.length L ∧
   W.heap[n0]? = some (.cells #[.slice none 0 0] 39 (0, 0)) ∧ W.heap[n0 + 1]? = some (.cells #[.bool false] 4 (0, 0)) ∧ Below n0 w0 W ∧ n0 + 8 ≤ W.heap.size
def peX (n0 : Nat) (w0 : World) (c : Code) (pre : List ByteArray) (W : World) : Prop :=
  c = .ret ∧ (∃ q ∈ pre, pE q.data.toList = none) ∧ W.heap[n0]? = some (.cells #[.slice none 0 0] 39 (0, 0)) ∧ W.heap[n0 + 1]? = some (.cells #[.bool false] 4 (0, 0)) ∧ Below n0 w0 W ∧ n0 + 8 ≤ W.heap.size
theorem ownE_ne {W : World} {lo n k : Nat} {v : Value} {L : List Int} (h : OwnE W lo v n L) (hk : v.ownBlock = some k) : ∃ cur, W.heap[k]? = some (.cells cur 67 (0, 0)) := by
  rcases h.2 with ⟨rfl, -⟩ | ⟨gg, cap, cur, rfl, -, hgg, -⟩
  · cases hk
  · have e2 : k = gg := by simpa [Value.ownBlock] using hk.symm
    subst e2; exact ⟨cur, hgg⟩
theorem below_put {n0 l : Nat} {w W : World} {o' : Obj} (h : Below n0 w W) (hl : n0 ≤ l) : Below n0 w (W.putObj l o') :=
  ⟨h.os, h.tape, h.output, by rw [World.putObj_size]; exact h.size, fun k hk => (World.putObj_heap_other (by omega)).trans (h.block k hk)⟩
theorem peI_put {n0 : Nat} {w0 W : World} {pre : List ByteArray} {r : Loop} {o' : Obj} (hl : W.heap[n0 + 6 + 1]? = some (.loop r)) (h : peI n0 w0 pre W) : peI n0 w0 pre (W.putObj (n0 + 6 + 1) o') := by
  obtain ⟨v, L, h1, h2, h3, h4, h5, h6, h7⟩ := h
  refine ⟨v, L, h1, (World.putObj_heap_other (by omega)).trans h2, ownsRow_of_block h3 fun k hk => World.putObj_heap_other ?_, (World.putObj_heap_other (by omega)).trans h4, (World.putObj_heap_other (by omega)).trans h5, below_put h6 (by omega), by rw [World.putObj_size]; exact h7⟩
  rintro rfl
  obtain ⟨cur, hc⟩ := ownE_ne h3 hk
  rw [hl] at hc; cases hc
theorem peX_put {n0 : Nat} {w0 W : World} {c : Code} {pre : List ByteArray} {r : Loop} {o' : Obj} (hl : W.heap[n0 + 6 + 1]? = some (.loop r)) (h : peX n0 w0 c pre W) : peX n0 w0 c pre (W.putObj (n0 + 6 + 1) o') := by
  obtain ⟨h1, h2, h4, h5, h6, h7⟩ := h
  exact ⟨h1, h2, (World.putObj_heap_other (by omega)).trans h4, (World.putObj_heap_other (by omega)).trans h5, below_put h6 (by omega), by rw [World.putObj_size]; exact h7⟩
theorem peI_set {n0 : Nat} {w0 W : World} {pre : List ByteArray} {t' : ByteArray} (h : peI n0 w0 pre W) : peI n0 w0 pre (W.setCell ⟨n0 + 3, 0, none⟩ (.string t')) := by
  obtain ⟨v, L, h1, h2, h3, h4, h5, h6, h7⟩ := h
  have hs : ∀ k, k ≠ n0 + 3 → (W.setCell ⟨n0 + 3, 0, none⟩ (.string t')).heap[k]? = W.heap[k]? := fun k hk => Below.heap_setCell W ⟨n0 + 3, 0, none⟩ _ k hk
  exact ⟨v, L, h1, (hs _ (by omega)).trans h2, ownsRow_of_block h3 fun k hk => hs k (by have := (World.ownsRow.lt h3 k hk).1; omega), (hs _ (by omega)).trans h4, (hs _ (by omega)).trans h5, h6.setCell (p := ⟨n0 + 3, 0, none⟩) (by show n0 ≤ n0 + 3; omega) _, by show _ ≤ (W.setCell _ _).heap.size; simpa using h7⟩
theorem own_form {W : World} {lo n : Nat} {v : Value} {L : List Int} (h : OwnE W lo v n L) : ∃ a cap, v = .slice a n cap := by
  rcases h.2 with ⟨rfl, e⟩ | ⟨gg, cap, cur, rfl, -, hgg, -⟩
  · exact ⟨none, 0, by rw [e]⟩
  · exact ⟨_, cap, rfl⟩
set_option maxHeartbeats 6400000 in
theorem c_iParseErrata (s : ByteArray) (w : World) (B : Nat) (hs : s.size ≤ 2000000) (hB : B ≤ w.heap.size) (hL : LibV B w) :
    Calls Tryz.prog 15 #[.string s] w (RetErrB w ((EP s).getD []) (EP s).isSome) := by
  have HL := hid hL
  clear hL
  have s1 : (w.alloc (.cells #[.slice none 0 0] 39)).heap.size = w.heap.size + 1 := by simp
  have b1 := RetRow.e1 w (.cells #[.slice none 0 0] 39)
  have r0 := heap_alloc_new w (.cells #[.slice none 0 0] 39)
  have s2 : ((w.alloc (.cells #[.slice none 0 0] 39)).alloc (.cells #[.bool false] 4)).heap.size = w.heap.size + 2 := by simp
  have b2 := b1.trans ((RetRow.e1 (w.alloc (.cells #[.slice none 0 0] 39)) (.cells #[.bool false] 4)).mono (by omega))
  have r1 := heap_alloc_new (w.alloc (.cells #[.slice none 0 0] 39)) (.cells #[.bool false] 4)
  rw [s1] at r1
  replace r0 := (Below.heap_alloc (w.alloc (.cells #[.slice none 0 0] 39)) (.cells #[.bool false] 4) w.heap.size (by omega)).trans r0
  by_cases hd : s = ⟨#[45]⟩
  · have HR := hid (show EP s = some [] by rw [hd]; exact EP_dash)
    have t1 : (s.toList == [45]) = true := by rw [hd, ByteArray.toList_eq]; rfl
    clear hd
    obtain ⟨wA, hwA⟩ : ∃ x, (w.alloc (.cells #[.slice none 0 0] 39)).alloc (.cells #[.bool false] 4) = x := ⟨_, rfl⟩
    rw [hwA] at s2 b2 r0 r1
    have c0 := row_cell r0 0
    have f0 := row_free r0 0
    have r1' := (Below.heap_setCell wA ⟨w.heap.size, 0, none⟩ (.slice none 0 0) (w.heap.size + 1) (show w.heap.size + 1 ≠ w.heap.size by omega)).trans r1
    have c1 := row_cell r1' 0
    have f1 := row_free r1' 0
    have HF0 := hid ((Below.heap_setCell (wA.setCell ⟨w.heap.size, 0, none⟩ (.slice none 0 0)) ⟨w.heap.size + 1, 0, none⟩ (.bool true) w.heap.size (show w.heap.size ≠ w.heap.size + 1 by omega)).trans (row_set r0 0 (.slice none 0 0)))
    have HF1 := hid (row_set r1' 0 (.bool true))
    have HBB := hid ((b2.setCell (p := ⟨w.heap.size, 0, none⟩) (Nat.le_refl _) (.slice none 0 0)).setCell (p := ⟨w.heap.size + 1, 0, none⟩) (show w.heap.size ≤ w.heap.size + 1 by omega) (.bool true))
    clear r0 r1 r1' b1 b2 s1 s2
    refine (callsIn_wide (n := 3)).1 ?_
    refine callsIn_of_wp_marks Tryz.func15 rfl trivial ?_ rfl
    simp only [Tryz.ntmps15, List.size_toArray, List.length_cons, List.length_nil, Nat.reduceAdd, Nat.reduceSub, Array.replicate_succ, Array.replicate_zero, List.push_toArray, List.append_toArray, List.nil_append, List.cons_append]
    gi_wp2
    refine ⟨.tuple #[.slice none 0 0, .bool true], res_pe HF0.out HF1.out (by rfl) (by rfl), ?_⟩
    rw [HR.out]
    exact ⟨_, rfl, RwE.nil _ _ _, HBB.out⟩
  · have t1 := pe_not_dash hd
    have HD := hid hd
    clear hd
    have s3 : (((w.alloc (.cells #[.slice none 0 0] 39)).alloc (.cells #[.bool false] 4)).alloc (.cells #[.slice none 0 0] 39)).heap.size = w.heap.size + 3 := by simp
    have b3 := b2.trans ((RetRow.e1 ((w.alloc (.cells #[.slice none 0 0] 39)).alloc (.cells #[.bool false] 4)) (.cells #[.slice none 0 0] 39)).mono (by omega))
    have r2 := heap_alloc_new ((w.alloc (.cells #[.slice none 0 0] 39)).alloc (.cells #[.bool false] 4)) (.cells #[.slice none 0 0] 39)
    rw [s2] at r2
    replace r0 := (Below.heap_alloc ((w.alloc (.cells #[.slice none 0 0] 39)).alloc (.cells #[.bool false] 4)) (.cells #[.slice none 0 0] 39) w.heap.size (by omega)).trans r0
    replace r1 := (Below.heap_alloc ((w.alloc (.cells #[.slice none 0 0] 39)).alloc (.cells #[.bool false] 4)) (.cells #[.slice none 0 0] 39) (w.heap.size + 1) (by omega)).trans r1
    obtain ⟨wA, hwA⟩ : ∃ x, ((w.alloc (.cells #[.slice none 0 0] 39)).alloc (.cells #[.bool false] 4)).alloc (.cells #[.slice none 0 0] 39) = x := ⟨_, rfl⟩
    rw [hwA] at s3 b3 r0 r1 r2
    obtain ⟨q0, q1, q2, qs, qb⟩ := sqW_at wA s
    rw [s3] at q0 q1 q2 qs
    have HR0 := hid (bel_k (n0 := 0) (w0 := w) r0 qb)
    have HR1 := hid (bel_k (n0 := 0) (w0 := w) r1 qb)
    have HR2 := hid (bel_k (n0 := 0) (w0 := w) r2 qb)
    have HB4 := hid (b3.trans (qb.mono b3.size))
    have HQ0 := hid q0
    have HQ1 := hid q1
    have HQ2 := hid q2
    have HQS := hid qs
    have HS3 := hid s3
    clear b1 b2 s1 s2 r0 r1 r2 q0 q1 q2 qs qb b3 s3
    refine (callsIn_wide (n := 3)).1 ?_
    refine callsIn_of_wp_marks Tryz.func15 rfl trivial ?_ rfl
    simp only [Tryz.ntmps15, List.size_toArray, List.length_cons, List.length_nil, Nat.reduceAdd, Nat.reduceSub, Array.replicate_succ, Array.replicate_zero, List.push_toArray, List.append_toArray, List.nil_append, List.cons_append]
    gi_wp2_with (refine ⟨trivial, ?_⟩; gi_at_call 47; refine (callsIn_wide.2 (c_SplitSeq _ _)).mono ?_; rintro e w' ⟨rfl, rfl⟩)
    (try rw [hwA])
    obtain ⟨wB, hwB⟩ : ∃ x, sqW wA s = x := ⟨_, rfl⟩
    rw [hwB] at HR0 HR1 HR2 HB4 HQ0 HQ1 HQ2 HQS ⊢
    clear hwA hwB
    obtain ⟨n0, hn0⟩ : ∃ n0, w.heap.size = n0 := ⟨_, rfl⟩
    have hsz : wB.heap.size = n0 + 6 := by rw [HQS.out, hn0]
    rw [hn0] at HR0 HR1 HR2 HB4 HQ0 HQ1 HQ2 HQS HS3 ⊢
    rw [HS3.out]
    have HBn : Hid (B ≤ n0) := by show B ≤ n0; omega
    refine range_split (s := s) (x := n0 + 3 + 1) (y := n0 + 3) (z := n0 + 3 + 2) (by omega) rfl (by omega) (by omega) HQ1.out HQ0.out HQ2.out (peI n0 w) (peX n0 w) ?_ ?_ ?_ ?_
      (fun q => { tmps := #[.string s, undef, .pointer (some ⟨n0, 0, none⟩), .pointer (some ⟨n0 + 1, 0, none⟩), .pointer (some ⟨n0 + 1 + 1, 0, none⟩), .string q, undef, undef, .string s, .bool false, .string s, .func (.func 81) #[] #[.pointer (some ⟨n0 + 3 + 1, 0, none⟩), .pointer (some ⟨n0 + 3, 0, none⟩), .pointer (some ⟨n0 + 3 + 2, 0, none⟩)], .string q, undef, undef, undef, undef, undef, undef, undef, undef, undef, undef, undef, undef, undef, undef, undef], defers := [] }) ?assign ?body ?done ?stop
    · intro pre W t t' _ h
      exact peI_set h
    · intro pre W r o' hl h
      rw [hsz] at hl ⊢
      exact peI_put hl h
    · intro c pre W r o' hl h
      rw [hsz] at hl ⊢
      exact peX_put hl h
    · intro o o'
      have bb : Below wB.heap.size wB ((wB.alloc o).alloc o') := ((Below.refl _ wB).alloc (Nat.le_refl _) _).alloc (by simp) _
      exact ⟨_, [], rfl, bel_k (n0 := 0) (w0 := w) HR2.out bb, OwnE.nil _ _, bel_k (n0 := 0) (w0 := w) HR0.out bb, bel_k (n0 := 0) (w0 := w) HR1.out bb, HB4.out.trans (bb.mono (by omega)), by simp; omega⟩
    case assign =>
      intro l q W K hK
      gi_wp2
      exact hK
    case body =>
      rintro l pre q W ⟨v, L, h1, h2, h3, h4, h5, h6, h7⟩ hpre ⟨ty, hty⟩
      obtain ⟨ad, cap, rfl⟩ := own_form h3
      have hLW := HL.out.to h6 HBn.out
      have hqs : q.size ≤ s.size := cB_size s (hpre.subset (List.mem_append.2 (.inr (by simp))))
      have hlen : pre.length ≤ s.size := by
        have e1 := hpre.length_le
        have e2 := (cB_len s).2
        rw [List.length_append, List.length_singleton] at e1
        omega
      have HP := hid (c_parseErratum q W B (by omega) (by have := HBn.out; omega) hLW)
      have H1 := hid h1
      have H2 := hid h2
      have H3 := hid h3
      have H4 := hid h4
      have H5 := hid h5
      have H6 := hid h6
      have HTY := hid hty
      clear hLW h1 h2 h3 h4 h5 h6 hty hpre
      gi_wp2_with fail
      refine ⟨trivial, ?_⟩
      refine (CallsIn.inRound l (callsIn_wide.2 HP.out)).mono ?_
      rintro e W1 ⟨x, y, z, b, rfl, bb, hb, ht⟩
      have sb := bb.size
      have hg := heap_alloc_new W1 (.cells #[.int .i64 0, .int .i64 0, .int .i64 0] 67)
      have ba := bb.trans ((RetRow.e1 W1 (.cells #[.int .i64 0, .int .i64 0, .int .i64 0] 67)).mono bb.size)
      obtain ⟨g, hgg⟩ : ∃ g, W1.heap.size = g := ⟨_, rfl⟩
      have hWg : W.heap.size ≤ g := by omega
      rw [hgg] at hg
      obtain ⟨W1a, hA⟩ : ∃ x, W1.alloc (.cells #[.int .i64 0, .int .i64 0, .int .i64 0] 67) = x := ⟨_, rfl⟩
      rw [hA] at hg ba
      obtain ⟨⟨d0, d1, d2⟩, ⟨d3, d4, d5⟩, ⟨d6, d7⟩, d8, d9⟩ := err_cells hg (.int .i64 x) (.int .i64 y)
      have hset := err_set hg (.int .i64 x) (.int .i64 y) (.int .i64 z)
      have bs := err_below ba hWg (.int .i64 x) (.int .i64 y) (.int .i64 z)
      obtain ⟨W2, hS⟩ : ∃ v, ((W1a.setCell ⟨g, 0, none⟩ (.int .i64 x)).setCell ⟨g, 1, none⟩ (.int .i64 y)).setCell ⟨g, 2, none⟩ (.int .i64 z) = v := ⟨_, rfl⟩
      rw [hS] at hset bs
      have HBS := hid bs
      have HTT := hid ht
      have HBT := hid hb
      have e0 := row_cell hset 0
      have e1 := row_cell hset 1
      have e2 := row_cell hset 2
      have sW2 := bs.size
      clear bb hb ht HP ba bs hg hset
      cases b with
      | false =>
        have l4 := bel_k (n0 := 0) (w0 := w) H4.out HBS.out
        have l5 := bel_k (n0 := 0) (w0 := w) H5.out HBS.out
        have c4 := row_cell l4 0
        have f4 := row_free l4 0
        have l5' := (Below.heap_setCell W2 ⟨n0, 0, none⟩ (.slice none 0 0) (n0 + 1) (show n0 + 1 ≠ n0 by omega)).trans l5
        have c5 := row_cell l5' 0
        have f5 := row_free l5' 0
        have HF0 := hid ((Below.heap_setCell (W2.setCell ⟨n0, 0, none⟩ (.slice none 0 0)) ⟨n0 + 1, 0, none⟩ (.bool false) n0 (show n0 ≠ n0 + 1 by omega)).trans (row_set l4 0 (.slice none 0 0)))
        have HF1 := hid (row_set l5' 0 (.bool false))
        clear l4 l5 l5'
        gi_wp2
        refine ⟨(KeepsOthers.trans (Gr.ko ((Gr.refl n0 W).below HBS.out)) (KeepsOthers.setCell _ _ _)).trans (KeepsOthers.setCell _ _ _), rfl, ⟨q, List.mem_append.2 (.inr (by simp)), ?_⟩, HF0.out, HF1.out, ?_, ?_⟩
        · cases hq : pE q.data.toList with
          | none => rfl
          | some t => have h := HBT.out; rw [hq] at h; cases h
        · exact ((Gr.bel2 H6.out ((Gr.refl n0 W).below HBS.out) (Nat.le_refl _) (by omega)).setCell (p := ⟨n0, 0, none⟩) (Nat.le_refl _) _).setCell (p := ⟨n0 + 1, 0, none⟩) (show n0 ≤ n0 + 1 by omega) _
        · simp; omega
      | true =>
        have l2 := bel_k (n0 := 0) (w0 := w) H2.out HBS.out
        have c2 := row_cell l2 0
        have f2 := row_free l2 0
        have HL2 := hid l2
        have HO := hid (OwnE.below H3.out HBS.out (Nat.le_refl _))
        have HG2 := hid ((Gr.refl (n0 + 6) W).below HBS.out)
        clear l2
        gi_wp2_with (gi_at_builtin; refine wpListIn_app3 rfl _ _ _ rfl Tryz.underlying39 (n0 + 6) _ _ _ (by rfl) (by rfl) HO.out (by omega) (by omega) ?_; intro v' W5 o5 g5; obtain ⟨ad5, cap5, hv5⟩ := own_form o5; subst hv5; have m5 := (g5.low (n0 + 2) (by omega) (by omega)).trans HL2.out; have HM5 := hid m5; have c5 := row_cell m5 0; have f5 := row_free m5 0; have HO5 := hid o5; have HG5 := hid g5; clear m5 o5 g5)
        have hgr := HG2.out.trans HG5.out
        have hlo : ∀ k, k < n0 + 6 → k ≠ n0 + 2 → (W5.setCell ⟨n0 + 2, 0, none⟩ (.slice ad5 (pre.length + 1) cap5)).heap[k]? = W.heap[k]? := fun k hk hne =>
          (Below.heap_setCell W5 ⟨n0 + 2, 0, none⟩ _ k hne).trans (hgr.low k (by omega) hk)
        refine ⟨KeepsOthers.trans (Gr.ko hgr) (KeepsOthers.setCell _ _ _), ⟨hlo _ (by omega) (by omega), hlo _ (by omega) (by omega), hlo _ (by omega) (by omega)⟩, .slice ad5 (pre.length + 1) cap5, L ++ [x, y, z], ?_, row_set HM5.out 0 _, ?_, (hlo n0 (by omega) (by omega)).trans H4.out, (hlo (n0 + 1) (by omega) (by omega)).trans H5.out, ?_, ?_⟩
        · rw [pL_snoc, H1.out]
          cases hq : pE q.data.toList with
          | none => have h := HBT.out; rw [hq] at h; cases h
          | some t => rw [HTT.out t hq]
        · rw [List.length_append, List.length_singleton]
          exact ownsRow_of_block HO5.out fun k hk => Below.heap_setCell W5 ⟨n0 + 2, 0, none⟩ _ k (by show k ≠ n0 + 2; have := (World.ownsRow.lt HO5.out k hk).1; omega)
        · exact (Gr.bel2 H6.out hgr (by omega) (by omega)).setCell (p := ⟨n0 + 2, 0, none⟩) (show n0 ≤ n0 + 2 by omega) _
        · have := hgr.size; simp; omega
    case done =>
      rintro W ⟨v, L, h1, h2, h3, h4, h5, h6, h7⟩ hK
      rw [hsz] at hK ⊢
      obtain ⟨ad, cap, rfl⟩ := own_form h3
      have hll := pL_len h1
      have hR := pL_R64 h1
      have hn := (cB_len s).2
      have hrw := OwnE.rw h3 hll hR (Nat.le_refl _)
      have HRW := hid hrw
      have HEV := hid (c_errataValid (.slice ad (cB s).length cap) L W.heap.size W (Nat.le_refl _) hrw.isI)
      have HK := hid hK
      have H1 := hid h1
      have H3 := hid h3
      have H6 := hid h6
      have H2 := hid h2
      have H4 := hid h4
      have H5 := hid h5
      have c2 := row_cell h2 0
      obtain ⟨N, hN⟩ : ∃ N, (cB s).length = N := ⟨_, rfl⟩
      rw [hN] at HEV HRW H3 H2 c2
      clear h1 h2 h3 h4 h5 h6 hK hrw hR hll hn hN
      gi_wp2_with fail
      refine ⟨trivial, ?_⟩
      refine (callsIn_wide.2 HEV.out).mono ?_
      rintro e W1 ⟨rfl, bb⟩
      have k1 := bel_k (n0 := 0) (w0 := w) HK.out bb
      have l2 := bel_k (n0 := 0) (w0 := w) H2.out bb
      have l4 := bel_k (n0 := 0) (w0 := w) H4.out bb
      have l5 := bel_k (n0 := 0) (w0 := w) H5.out bb
      have B1 := hid (H6.out.trans (bb.mono (by omega)))
      have R1 := hid ((HRW.out.below bb (Nat.le_refl _)))
      have sW1 := bb.size
      have c2' := row_cell l2 0
      have c4 := row_cell l4 0
      have f4 := row_free l4 0
      clear bb c2
      cases hev : EV L with
      | false =>
        have HE := hid (EP_bad HD.out H1.out hev)
        have l5' := (Below.heap_setCell W1 ⟨n0, 0, none⟩ (.slice none 0 0) (n0 + 1) (show n0 + 1 ≠ n0 by omega)).trans l5
        have c5 := row_cell l5' 0
        have f5 := row_free l5' 0
        have HF0 := hid ((Below.heap_setCell (W1.setCell ⟨n0, 0, none⟩ (.slice none 0 0)) ⟨n0 + 1, 0, none⟩ (.bool false) n0 (show n0 ≠ n0 + 1 by omega)).trans (row_set l4 0 (.slice none 0 0)))
        have HF1 := hid (row_set l5' 0 (.bool false))
        have HKK := hid ((Below.heap_setCell (W1.setCell ⟨n0, 0, none⟩ (.slice none 0 0)) ⟨n0 + 1, 0, none⟩ (.bool false) (n0 + 6) (show n0 + 6 ≠ n0 + 1 by omega)).trans ((Below.heap_setCell W1 ⟨n0, 0, none⟩ (.slice none 0 0) (n0 + 6) (show n0 + 6 ≠ n0 by omega)).trans k1))
        clear hev l5 l5' l4 l2 k1
        gi_wp2
        refine ⟨by simp, .inl ⟨_, _, rfl, run_takeDeferred HKK.out, ?_⟩⟩
        refine ⟨.tuple #[.slice none 0 0, .bool false], res_pe ((World.putObj_heap_other (by omega)).trans HF0.out) ((World.putObj_heap_other (by omega)).trans HF1.out) (by rfl) (by rfl), ?_⟩
        rw [HE.out]
        refine ⟨_, rfl, RwE.nil _ _ _, ?_⟩
        rw [hn0]
        exact below_put ((B1.out.setCell (p := ⟨n0, 0, none⟩) (Nat.le_refl _) _).setCell (p := ⟨n0 + 1, 0, none⟩) (show n0 ≤ n0 + 1 by omega) _) (by omega)
      | true =>
        have HE := hid (EP_yes HD.out H1.out hev)
        have l5' := (Below.heap_setCell W1 ⟨n0, 0, none⟩ (.slice ad N cap) (n0 + 1) (show n0 + 1 ≠ n0 by omega)).trans l5
        have c5 := row_cell l5' 0
        have f5 := row_free l5' 0
        have HF0 := hid ((Below.heap_setCell (W1.setCell ⟨n0, 0, none⟩ (.slice ad N cap)) ⟨n0 + 1, 0, none⟩ (.bool true) n0 (show n0 ≠ n0 + 1 by omega)).trans (row_set l4 0 (.slice ad N cap)))
        have HF1 := hid (row_set l5' 0 (.bool true))
        have HKK := hid ((Below.heap_setCell (W1.setCell ⟨n0, 0, none⟩ (.slice ad N cap)) ⟨n0 + 1, 0, none⟩ (.bool true) (n0 + 6) (show n0 + 6 ≠ n0 + 1 by omega)).trans ((Below.heap_setCell W1 ⟨n0, 0, none⟩ (.slice ad N cap) (n0 + 6) (show n0 + 6 ≠ n0 by omega)).trans k1))
        clear hev l5 l5' l4 l2
        gi_wp2
        refine ⟨by simp, .inl ⟨_, _, rfl, run_takeDeferred HKK.out, ?_⟩⟩
        refine ⟨.tuple #[.slice ad N cap, .bool true], res_pe ((World.putObj_heap_other (by omega)).trans HF0.out) ((World.putObj_heap_other (by omega)).trans HF1.out) (by rfl) (by rfl), ?_⟩
        rw [HE.out]
        refine ⟨_, rfl, ?_, ?_⟩
        · rw [hn0]
          obtain ⟨m, hm1, hm2, hm3, hm4⟩ := R1.out
          refine ⟨m, hm1, ?_, fun k hk => ?_, hm4⟩
          · refine ⟨hm2.1, ?_⟩
            rcases hm2.2 with h | ⟨gg, cp, cur, hv, hlo, hgg, hrest⟩
            · exact .inl h
            · refine .inr ⟨gg, cp, cur, hv, by omega, ?_, hrest⟩
              have hne : gg ≠ n0 + 6 := by rintro rfl; rw [k1] at hgg; cases hgg
              exact (World.putObj_heap_other hne).trans ((Below.heap_setCell _ ⟨n0 + 1, 0, none⟩ _ gg (by show gg ≠ n0 + 1; omega)).trans ((Below.heap_setCell _ ⟨n0, 0, none⟩ _ gg (by show gg ≠ n0; omega)).trans hgg))
          · have := hm3 k hk
            rw [World.putObj_size]
            show k < ((W1.setCell _ _).setCell _ _).heap.size
            simp; omega
        · rw [hn0]
          exact below_put ((B1.out.setCell (p := ⟨n0, 0, none⟩) (Nat.le_refl _) _).setCell (p := ⟨n0 + 1, 0, none⟩) (show n0 ≤ n0 + 1 by omega) _) (by omega)
    case stop =>
      rintro c pre W hpre ⟨rfl, ⟨q, hq, hqe⟩, h4, h5, h6, h7⟩ hK
      rw [hsz] at hK ⊢
      have HE := hid (EP_none HD.out (pL_no (hpre.subset hq) hqe))
      have HK := hid hK
      have HF0 := hid h4
      have HF1 := hid h5
      have H6 := hid h6
      clear h4 h5 h6 hK hqe
      gi_wp2
      refine ⟨by simp, .inl ⟨_, _, rfl, run_takeDeferred HK.out, ?_⟩⟩
      refine ⟨.tuple #[.slice none 0 0, .bool false], res_pe ((World.putObj_heap_other (by omega)).trans HF0.out) ((World.putObj_heap_other (by omega)).trans HF1.out) (by rfl) (by rfl), ?_⟩
      rw [HE.out]
      refine ⟨_, rfl, RwE.nil _ _ _, ?_⟩
      rw [hn0]
      exact below_put H6.out (by omega)
end Go.Proofs.YtlinkeemccnfmaaGreatDoor
