/- What is proved here: those statements of Tur that this claim needs. -/
import Derived.Test.YtlinkeemccnfmaaGreatDoorVal
import Derived.Test.YtlinkeemccnfmaaGreatDoorFmt2
set_option linter.unusedVariables false
set_option linter.unusedSimpArgs false
set_option maxRecDepth 100000
namespace Go.Proofs.YtlinkeemccnfmaaGreatDoor
open Go.RowKit
theorem Tryz.infoStr : (Tryz.prog.info? 9).map (fun i => (i.zero, i.size, i.bytes)) = some (some (.string ⟨#[]⟩), 1, 16) := by kernel_rfl
def OwnT (w : World) (B : Nat) (v : Value) (cs : List ByteArray) : Prop := w.ownsRow B 9 1 v cs.length (cs.map Value.string) ∧ ∀ i, i < cs.length → (tC cs i).size ≤ maxLen
theorem map_str_at (cs : List ByteArray) (j : Nat) (h : j < cs.length) : (cs.map Value.string)[j]? = some (.string (tC cs j)) := by
  rw [List.getElem?_map, List.getElem?_eq_getElem h, tC_lt h]; rfl
theorem OwnT.empty (w : World) {B : Nat} {c : Array Value} (hB : B ≤ w.heap.size) (hc : c = #[]) : OwnT (w.alloc (.cells c 9)) B (.slice (some ⟨w.heap.size, 0, none⟩) 0 0) [] := by
  subst hc; exact ⟨World.ownsRow_made w #[] 0 hB (by unfold maxLen; omega) (by simp), fun i hi => by simp at hi⟩
theorem OwnT.rwT {w : World} {B hi : Nat} {v : Value} {cs : List ByteArray} (h : OwnT w B v cs) (h0 : 0 < cs.length) (hh : w.heap.size ≤ hi) : RwT w B hi v cs := by
  obtain ⟨ho, hs⟩ := h
  have hlt := ho.lt
  rcases ho.2 with ⟨rfl, hn⟩ | ⟨g, cap, cur, rfl, hbg, hgg, hnc, hcm, hcs, hct⟩
  · omega
  · refine ⟨g, cap, cur, rfl, ⟨hbg, by have := (hlt g rfl).2; omega⟩, hgg, ⟨hnc, hcm⟩, by omega, fun i hi => ⟨?_, hs i hi⟩⟩
    have e : (cs.map Value.string)[i]? = cur.toList[i]? := by rw [← hct, List.getElem?_take, if_pos (by omega)]
    rw [← Array.getElem?_toList, ← e, map_str_at _ _ hi]
theorem strs_oneCell (cs : List ByteArray) : ∀ u ∈ cs.map Value.string, u.oneCell' = true := by
  intro u hu
  obtain ⟨s, _, rfl⟩ := List.mem_map.1 hu
  rfl
theorem wpList_appT {ops : Array Oper} {rest : List Oper} {o : Oper} {a : Act} {Q : Exit → Act → World → Prop} {w : World} (hgd : o.guard = none) (s x : Operand) (T : TypeId)
    (ho : o.op = .call { callee := .builtin .append, args := #[s, x], argTypes := #[T, T] }) (hT : Tryz.prog.underlying T = some (.slice 9))
    (B : Nat) (v : Value) (hs : a.eval s = v) (hown : OwnT w B v []) (C : Nat) (u : Value) (cs : List ByteArray) (hu : IsT w C u cs) (h0 : 0 < cs.length) (hx : a.eval x = u)
    (hn : cs.length ≤ 1099511627776) (hbase : B ≤ w.heap.size)
    (h : ∀ v' w', OwnT w' B v' cs → Below B w w' → wpList Tryz.prog ops Q rest (a.put o.dst v') w') : wpList Tryz.prog ops Q (o :: rest) a w := by
  obtain ⟨ad, cap, rfl, hm, hc⟩ := hu
  obtain ⟨b0, off0, rfl, _, _, _⟩ := hc 0 h0
  obtain ⟨i0, hi, hz0, hz1, hz2⟩ := info_parts Tryz.infoStr
  refine wpList_append_own _ hgd s x T ho B 9 i0 _ 1 16 hT hi hz0 hz1 hz2 rfl (by omega) v _ _ hs hown.1 ⟨b0, off0, none⟩ cs.length cap (cs.map Value.string) hx (by simp) ?_ (strs_oneCell _) (by unfold maxLen; simp; omega) (by simp; omega) hbase ?_
  · intro j u hu
    have hj : j < cs.length := by
      rcases Nat.lt_or_ge j cs.length with h' | h'
      · exact h'
      · rw [List.getElem?_eq_none (by simpa using h')] at hu; cases hu
    obtain ⟨b, off, hb, _, hcell, _⟩ := hc j hj
    simp only [Option.some.injEq, Addr.mk.injEq, and_true] at hb
    obtain ⟨rfl, rfl⟩ := hb
    have e : (⟨b0, off0, none⟩ : Addr).add j = ⟨b0, off0 + j, none⟩ := by unfold Addr.add; split <;> simp_all
    rw [e, hcell, ← hu, map_str_at _ _ hj]
  · intro v' w' hown' hg _
    refine h v' w' ⟨by simpa using hown', fun i hi => by obtain ⟨_, _, _, _, _, hh⟩ := hc i hi; exact hh⟩ ⟨hg.os, hg.tape, hg.output, hg.size, fun k hk => hg.block k (by omega) (fun e => by have := (World.ownsRow.lt hown.1 k e.symm).1; omega)⟩
def RetT' (w : World) (cs : List ByteArray) (e : Ending) (w' : World) : Prop := ∃ g cap, e = .returned (.slice (some ⟨g, 0, none⟩) cs.length cap) ∧ RwT w' w.heap.size w'.heap.size (.slice (some ⟨g, 0, none⟩) cs.length cap) cs ∧ Below w.heap.size w w'
theorem RwT.form {w : World} {lo hi : Nat} {v : Value} {cs : List ByteArray} (h : RwT w lo hi v cs) : ∃ g cap, v = .slice (some ⟨g, 0, none⟩) cs.length cap := by
  obtain ⟨g, cap, cur, rfl, _⟩ := h; exact ⟨g, cap, rfl⟩
theorem c_CloneT (v : Value) (cs : List ByteArray) (w : World) (hl : cs.length ≤ 1000000000) (h0 : 0 < cs.length) (hv : IsT w w.heap.size v cs) :
    Calls Tryz.prog 37 #[v] w (RetT' w cs) := by
  have hv0 := hv
  obtain ⟨a, cap, rfl, hm, hc⟩ := hv
  obtain ⟨b0, off0, rfl, _, _, _⟩ := hc 0 h0
  clear hc hm
  have hv1 := hv0.alloc (.cells #[] 9) (Nat.le_refl _)
  have hq := fun W => Lib.run_eql_slice_nil (P := Tryz.prog) W 26 9 (some ⟨b0, off0, none⟩) cs.length cap 0 0 Tryz.underlying26
  clear hv0
  go_enter Tryz.func37, Tryz.ntmps37
  go_wp2_with (at_builtin; refine wpList_appT rfl _ _ _ rfl Tryz.underlying26 w.heap.size (.slice (some ⟨w.heap.size, 0, none⟩) 0 0) (by rfl) (OwnT.empty w (Nat.le_refl _) rfl) _ _ cs hv1 h0 (by rfl) (by omega) (by simp) ?_; intro v1 w1 hown1 hb1)
  obtain ⟨g, c1, rfl⟩ := (hown1.rwT h0 (Nat.le_refl _)).form
  go_ret
  exact ⟨g, c1, rfl, hown1.rwT h0 (Nat.le_refl _), (RetRow.e1 _ _).trans hb1⟩
set_option maxHeartbeats 3200000 in
theorem c_turnedOnce (v : Value) (cs : List ByteArray) (w : World) (hE : EGV cs = true) (hv : IsT w w.heap.size v cs) :
    Calls Tryz.prog 43 #[v] w (RetT' w (tuN cs)) := by
  obtain ⟨⟨n1, n7⟩, hcs⟩ := EGV_iff.1 hE
  have HCS := hid hcs
  have HLN := hid (tuN_len cs)
  have HAT := hid (fun i (hi : i < cs.length) => tuN_at (cs := cs) hi)
  have HTC := hid (fun i (hi : i < cs.length) => (show (tC (tuN cs) i).size ≤ maxLen by
    have h1 := (CV_iff.1 ((EGV_iff.1 (EGV_tuN hE)).2 i (by rw [tuN_len]; exact hi)).1).1.2
    unfold maxLen; omega))
  have hv0 := hv
  obtain ⟨av, cv, rfl, -, hcv⟩ := hv
  obtain ⟨b0, off, rfl, hb0, -, -⟩ := hcv 0 (by omega)
  have HCV := hid hcv
  clear hcs hE hcv
  go_enter Tryz.func43, Tryz.ntmps43
  go_wp2_with fail
  refine (c_CloneT _ cs _ (by omega) (by omega) hv0).mono ?_
  rintro e w1 ⟨g, cap, rfl, r1, b1⟩
  have s1 := b1.size
  obtain ⟨g', cap', cur0, hgv, hg, hgg, hm, hsz, hc⟩ := r1
  simp only [Value.slice.injEq, Option.some.injEq, Addr.mk.injEq, and_true, true_and] at hgv
  obtain ⟨rfl, rfl⟩ := hgv
  have hne : ¬ b0 = g := by omega
  have HG0 := hid hgg
  have HC0 := hid (fun k (hk : k < cs.length) => (hc k hk).1)
  have HSZ := hid hsz
  obtain ⟨hg0, hg1⟩ := hg
  obtain ⟨hm0, hm1⟩ := hm
  have HM := hid hm0
  have HM1 := hid hm1
  clear hv0 hc hgg hsz hm0 hm1
  go_wp2
  go_loopw [4] (fun i wr => ∃ (j : Nat) (cur : Array Value), j + 1 ≤ cs.length ∧ i = .int .i64 j ∧ Hid (wr.heap[g]? = some (.cells cur 9 (0, 0))) ∧ Hid (cur.size = cap) ∧ Hid (∀ k, k < cs.length → cur[k]? = some (.string (if k < j then plC (tC cs k) (tC cs (k + 1)) else tC cs k))) ∧ Below w.heap.size w wr) (fun i _ => cs.length - (intOf i).toNat)
  case atStart => exact ⟨0, cur0, by omega, rfl, HG0, HSZ, fun k hk => by rw [HC0.out k hk, if_neg (by omega)], b1⟩
  case round =>
    obtain ⟨j, cur, hj, rfl, HG, HS, HC, hbel⟩ := hrel
    clear b1 HG0 HC0 hg1 s1
    by_cases hlt : j + 1 < cs.length
    · obtain ⟨b', off', hb', -, gj, sj⟩ := HCV.out j (by omega)
      obtain ⟨b'', off'', hb'', -, gk, sk⟩ := HCV.out (j + 1) hlt
      simp only [Option.some.injEq, Addr.mk.injEq, and_true] at hb' hb''
      obtain ⟨rfl, rfl⟩ := hb'
      obtain ⟨rfl, rfl⟩ := hb''
      have q0 : (0 : Int) ≤ (j : Int) := by omega
      have q1 : (j : Int) < cs.length := by omega
      have q2 : (j : Int) + 1 < cs.length := by omega
      have q3 : (0 : Int) ≤ (j : Int) + 1 := by omega
      have q4 : j < cs.length := by omega
      have k1 : IntKind.i64.wrap ((j : Int) + 1) = (j : Int) + 1 := IntWalk.i64_in _ (by omega)
      have k2 : ((j : Int) + 1).toNat = j + 1 := by omega
      have hs3 : j < cur.size := by rw [HS.out]; have := HM.out; omega
      have hgw := (Array.getElem?_eq_some_iff.1 HG.out).1
      have HCJ := hid (HC.out j (by omega))
      have HA := hid (HCS.out j (by omega))
      have HB := hid (HCS.out (j + 1) hlt)
      have HKK := hid (fun w' (hb : Below w.heap.size w w') => (show w'.cell? ⟨b0, off + j, none⟩ = some (.string (tC cs j)) ∧ w'.cell? ⟨b0, off + (j + 1), none⟩ = some (.string (tC cs (j + 1))) from ⟨(hb.cell (p := ⟨b0, off + j, none⟩) hb0).trans gj, (hb.cell (p := ⟨b0, off + (j + 1), none⟩) hb0).trans gk⟩))
      clear gj gk
      go_wp2_with fail
      refine wp_region_held_drew (S := fun w' => w'.cell? ⟨b0, off + j, none⟩ = some (.string (tC cs j)) ∧ w'.cell? ⟨b0, off + (j + 1), none⟩ = some (.string (tC cs (j + 1)))) (by kernel_rfl) ?_ (fun hHeld => ?_)
      focus (exact HKK.out _ hbel.drew)
      refine take_at (i := 0) (d := some 15) (v := ?_) rfl rfl (by kernel_rfl) (by kernel_rfl) (by kernel_rfl) ?_ (Or.inl ⟨by rfl, ?_⟩) (by assumption) ?_
      rotate_left
      exact fun _ _ _ h => h
      focus (intro w hSw; (try dsimp only at hSw); go_simp; (try with_reducible rfl); done)
      (try simp only [Act.put, List.setIfInBounds_toArray, List.set_cons_zero, List.set_cons_succ])
      refine take_at (i := 1) (d := some 16) (v := ?_) rfl rfl (by kernel_rfl) (by kernel_rfl) (by kernel_rfl) ?_ (Or.inl ⟨by rfl, ?_⟩) (by assumption) ?_
      rotate_left
      exact fun _ _ _ h => h
      focus (intro w hSw; (try dsimp only at hSw); go_simp; (try with_reducible rfl); done)
      (try simp only [Act.put, List.setIfInBounds_toArray, List.set_cons_zero, List.set_cons_succ])
      refine take_at (i := 2) (d := some 17) (v := ?_) rfl rfl (by kernel_rfl) (by kernel_rfl) (by kernel_rfl) ?_ (Or.inl ⟨by rfl, ?_⟩) (by assumption) ?_
      rotate_left
      exact fun _ _ _ h => h
      focus (intro w hSw; (try dsimp only at hSw); go_simp; (try with_reducible rfl); done)
      (try simp only [Act.put, List.setIfInBounds_toArray, List.set_cons_zero, List.set_cons_succ])
      refine take_at (i := 3) (d := some 18) (v := ?_) rfl rfl (by kernel_rfl) (by kernel_rfl) (by kernel_rfl) ?_ (Or.inl ⟨by rfl, ?_⟩) (by assumption) ?_
      rotate_left
      exact fun _ _ _ h => h
      focus (intro w hSw; (try dsimp only at hSw); go_simp; (try with_reducible rfl); done)
      (try simp only [Act.put, List.setIfInBounds_toArray, List.set_cons_zero, List.set_cons_succ])
      refine take_at (i := 4) (d := some 19) (v := ?_) rfl rfl (by kernel_rfl) (by kernel_rfl) (by kernel_rfl) ?_ (Or.inl ⟨by rfl, ?_⟩) (by assumption) ?_
      rotate_left
      exact fun _ _ _ h => h
      focus (intro w hSw; (try dsimp only at hSw); go_simp; (try with_reducible rfl); done)
      (try simp only [Act.put, List.setIfInBounds_toArray, List.set_cons_zero, List.set_cons_succ])
      refine take_at (i := 5) (d := some 20) (v := ?_) rfl rfl (by kernel_rfl) (by kernel_rfl) (by kernel_rfl) ?_ (Or.inl ⟨by rfl, ?_⟩) (by assumption) ?_
      rotate_left
      exact fun _ _ _ h => h
      focus (intro w hSw; (try dsimp only at hSw); go_simp; (try with_reducible rfl); done)
      (try simp only [Act.put, List.setIfInBounds_toArray, List.set_cons_zero, List.set_cons_succ])
      refine take_at (i := 6) (d := some 21) (v := ?_) rfl rfl (by kernel_rfl) (by kernel_rfl) (by kernel_rfl) ?_ (Or.inl ⟨by rfl, ?_⟩) (by assumption) ?_
      rotate_left
      exact fun _ _ _ h => h
      focus (intro w hSw; (try dsimp only at hSw); go_simp; (try with_reducible rfl); done)
      (try simp only [Act.put, List.setIfInBounds_toArray, List.set_cons_zero, List.set_cons_succ])
      refine take_at (i := 7) (d := some 22) (v := ?_) rfl rfl (by kernel_rfl) (by kernel_rfl) (by kernel_rfl) ?_ (Or.inl ⟨by rfl, ?_⟩) (by assumption) ?_
      rotate_left
      exact fun _ _ _ h => h
      focus (intro w hSw; (try dsimp only at hSw); go_simp; (try with_reducible rfl); done)
      (try simp only [Act.put, List.setIfInBounds_toArray, List.set_cons_zero, List.set_cons_succ])
      refine take_at (i := 8) (d := some 23) (v := ?_) rfl rfl (by kernel_rfl) (by kernel_rfl) (by kernel_rfl) ?_ (Or.inl ⟨by rfl, ?_⟩) (by assumption) ?_
      rotate_left
      exact fun _ _ _ h => h
      focus (intro w hSw; (try dsimp only at hSw); go_simp; (try with_reducible rfl); done)
      (try simp only [Act.put, List.setIfInBounds_toArray, List.set_cons_zero, List.set_cons_succ])
      refine take_at (i := 9) (d := some 24) (v := ?_) rfl rfl (by kernel_rfl) (by kernel_rfl) (by kernel_rfl) ?_ (Or.inl ⟨by rfl, ?_⟩) (by assumption) ?_
      rotate_left
      exact fun _ _ _ h => h
      focus (intro w hSw; (try dsimp only at hSw); go_simp; (try with_reducible rfl); done)
      (try simp only [Act.put, List.setIfInBounds_toArray, List.set_cons_zero, List.set_cons_succ])
      refine take_at (i := 10) (d := some 25) (v := ?_) rfl rfl (by kernel_rfl) (by kernel_rfl) (by kernel_rfl) ?_ (Or.inl ⟨by rfl, ?_⟩) (by assumption) ?_
      rotate_left
      exact fun _ _ _ h => h
      focus (intro w hSw; (try dsimp only at hSw); go_simp; (try with_reducible rfl); done)
      (try simp only [Act.put, List.setIfInBounds_toArray, List.set_cons_zero, List.set_cons_succ])
      refine wpAnyH_ready (rs := [11]) (by kernel_rfl) (by simp) ?_
      refine AllReadyH.cons (o := _) rfl (fun K hK => ?_) AllReadyH.nil
      go_simp
      refine (c_iAddColumns (tC cs j) (tC cs (j + 1)) HA.out.1 HB.out.1 (by rw [HA.out.2, HB.out.2]) _).mono ?_
      rintro e w9 ⟨rfl, b9⟩
      have bb9 := hbel.drew.trans (b9.mono hbel.size); have HG9 := hid ((b9.block g (show g < wr.heap.size from hgw)).trans (show wr.drew.heap[g]? = _ from HG.out)); have c9 := row_cell HG9.out j; have f9 := row_free HG9.out j
      refine hK.out _ _ ?_ (fun hHeld => ?_)
      focus (exact HKK.out _ bb9)
      clear hK
      (try simp only [Act.put, List.setIfInBounds_toArray, List.set_cons_zero, List.set_cons_succ])
      rw [Array.getElem?_eq_getElem hs3] at c9
      refine take_at (i := 12) (d := some 14) (v := ?_) rfl rfl (by kernel_rfl) (by kernel_rfl) (by kernel_rfl) ?_ (Or.inl ⟨by rfl, ?_⟩) (by assumption) ?_
      rotate_left
      exact fun _ _ _ h => h
      focus (intro w hSw; (try dsimp only at hSw); go_simp; (try with_reducible rfl); done)
      (try simp only [Act.put, List.setIfInBounds_toArray, List.set_cons_zero, List.set_cons_succ])
      refine take_at (i := 13) (d := some 27) (v := ?_) rfl rfl (by kernel_rfl) (by kernel_rfl) (by kernel_rfl) ?_ (Or.inl ⟨by rfl, ?_⟩) (by assumption) ?_
      rotate_left
      exact fun _ _ _ h => h
      focus (intro w hSw; (try dsimp only at hSw); go_simp; (try with_reducible rfl); done)
      (try simp only [Act.put, List.setIfInBounds_toArray, List.set_cons_zero, List.set_cons_succ])
      refine take_at (i := 14) (d := some 28) (v := ?_) rfl rfl (by kernel_rfl) (by kernel_rfl) (by kernel_rfl) ?_ (Or.inl ⟨by rfl, ?_⟩) (by assumption) ?_
      rotate_left
      exact fun _ _ _ h => h
      focus (intro w hSw; (try dsimp only at hSw); go_simp; (try with_reducible rfl); done)
      (try simp only [Act.put, List.setIfInBounds_toArray, List.set_cons_zero, List.set_cons_succ])
      refine take_at (i := 15) (d := some 29) (v := ?_) rfl rfl (by kernel_rfl) (by kernel_rfl) (by kernel_rfl) ?_ (Or.inl ⟨by rfl, ?_⟩) (by assumption) ?_
      rotate_left
      exact fun _ _ _ h => h
      focus (intro w hSw; (try dsimp only at hSw); go_simp; (try with_reducible rfl); done)
      (try simp only [Act.put, List.setIfInBounds_toArray, List.set_cons_zero, List.set_cons_succ])
      refine wpAnyH_ready (rs := [16]) (by kernel_rfl) (by simp) ?_
      refine AllReadyH.cons (o := _) rfl (fun K hK => ?_) AllReadyH.nil
      go_simp
      refine hK.out _ _ ?_ (fun hHeld => ?_)
      focus (exact ⟨cell_other hne (HKK.out _ bb9).1, cell_other hne (HKK.out _ bb9).2⟩)
      clear hK
      (try simp only [Act.put, List.setIfInBounds_toArray, List.set_cons_zero, List.set_cons_succ])
      refine wpAnyH_done (by kernel_rfl) ?_ _
      go_wp2
      go_roundw
      case rel =>
        refine ⟨j + 1, _, by omega, by go_num, row_set HG9.out _ _, by show _ = _; simpa using HS.out, fun k hk => ?_, bb9.setCell (p := ⟨g, j, none⟩) hg0 _⟩
        by_cases e : k = j
        · subst e; rw [Array.getElem?_setIfInBounds, if_pos rfl, if_pos hs3, if_pos (by omega)]
        · rw [Array.getElem?_setIfInBounds, if_neg (by omega), HC.out k hk]
          by_cases e2 : k < j
          · rw [if_pos e2, if_pos (by omega)]
          · rw [if_neg e2, if_neg (by omega)]
      case measure => simp [intOf]; omega
    · have hje : j + 1 = cs.length := by omega
      have HJE := hid hje
      have hng : ¬ (j : Int) + 1 < cs.length := by omega
      clear hje
      go_wp2
      go_ret
      refine ⟨g, cap, by rw [HLN.out]; rfl, ?_, hbel⟩
      exact ⟨g, cap, cur, rfl, ⟨hg0, (Array.getElem?_eq_some_iff.1 HG.out).1⟩, HG.out, ⟨by rw [HLN.out]; exact HM.out, HM1.out⟩, HS.out, fun i hi => by
        rw [HLN.out] at hi
        refine ⟨?_, HTC.out i hi⟩
        rw [HC.out i hi, HAT.out i hi]
        have := HJE.out
        by_cases e : i < j
        · rw [if_pos e, if_pos (by omega)]
        · rw [if_neg e, if_neg (by omega)]⟩
end Go.Proofs.YtlinkeemccnfmaaGreatDoor
