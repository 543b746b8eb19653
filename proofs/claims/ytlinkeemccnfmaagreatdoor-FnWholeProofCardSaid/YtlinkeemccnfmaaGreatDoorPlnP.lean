/- What is proved here: those statements of Dif, Dt, Ipl, Run, PlnP that this claim needs. -/
import Derived.Test.YtlinkeemccnfmaaGreatDoorSlc
import Derived.Test.YtlinkeemccnfmaaGreatDoorPol2
import Derived.Laws.ResultCell
import Derived.Laws.Rows
import Derived.Deep.RegionHeld3
import Derived.Test.YtlinkeemccnfmaaGreatDoorLaws1
set_option linter.unusedVariables false
set_option linter.unusedSimpArgs false
namespace Go.Proofs.YtlinkeemccnfmaaGreatDoor
open Go.RowKit
theorem dF_take {xs : List Int} {j : Nat} (h : j + 1 < xs.length) : (dF xs).take (j + 1) = (dF xs).take j ++ [el xs (j + 1) - el xs j] := by
  rw [take_el (by rw [dF_len]; omega), dF_el h]

theorem c_l2Next (v : Value) (xs : List Int) (b : Int) (w : World) (hv : IsI w w.heap.size v xs) (hb0 : b ≤ 2305843009213693952) (hR : Bd b xs) (hl : xs.length ≤ 1000000) :
    Calls Tryz.prog 90 #[v] w (RetRow w (dF xs)) := by
  obtain ⟨a, cap, rfl, hm, hr, hc⟩ := hv
  unfold maxLen at hm
  have HRD := hid ((dF_bd hR).r64 (by omega))
  have HBD := hid hR
  have HL := hid (dF_len xs)
  clear hr hR
  go_enter Tryz.func90, Tryz.ntmps90
  go_wp2
  go_loopw [3, 4] (fun v i wr => ∃ j : Nat, j ≤ xs.length ∧ i = .int .i64 j ∧ OwnI wr w.heap.size v ((dF xs).take j) ∧ Below w.heap.size w wr) (fun _ i _ => xs.length - (intOf i).toNat)
  case atStart => exact ⟨0, Nat.zero_le _, rfl, OwnI.empty _ (Nat.le_refl _) rfl, (Below.refl _ _).alloc (Nat.le_refl _) _⟩
  case round =>
    obtain ⟨j, hj, rfl, hown, hbel⟩ := hrel
    have hsz := hbel.size
    have hyl : ((dF xs).take j).length ≤ 1000000 := by have := List.length_take_le j (dF xs); omega
    by_cases hlt : j + 1 < xs.length
    · obtain ⟨bk, off, rfl, hb, hcell⟩ := hc j (by omega)
      have hce := (hbel.cell (p := ⟨bk, off + j, none⟩) hb).trans (hcell j (by omega))
      have hce' := (hbel.cell (p := ⟨bk, off + (j + 1), none⟩) hb).trans (hcell (j + 1) hlt)
      obtain ⟨r1, r2⟩ := HBD.out j (by omega)
      obtain ⟨r3, r4⟩ := HBD.out (j + 1) hlt
      have HP := hid (dF_take hlt)
      have k1 : IntKind.i64.wrap ((j : Int) + 1) = (j : Int) + 1 := IntWalk.i64_in _ (by omega)
      have k2 : IntKind.i64.wrap (el xs (j + 1) - el xs j) = el xs (j + 1) - el xs j := IntWalk.i64_in _ (by omega)
      have k3 : ((j : Int) + 1).toNat = j + 1 := by omega
      have k4 : 0 ≤ (j : Int) + 1 := by omega
      have k5 : (j : Int) + 1 < xs.length := by omega
      have k6 : (j : Int) < xs.length := by omega
      have k7 : 0 ≤ (j : Int) := by omega
      clear hc hcell
      go_wp2_with fail
      go_region_held3 (fun w' => w'.cell? ⟨bk, off + j, none⟩ = some (.int .i64 (el xs j)) ∧ w'.cell? ⟨bk, off + (j + 1), none⟩ = some (.int .i64 (el xs (j + 1))))
        (first | go_keep | exact ⟨(hb1.cell (p := ⟨bk, off + j, none⟩) hb).trans hce, (hb1.cell (p := ⟨bk, off + (j + 1), none⟩) hb).trans hce'⟩)
        (first | (refine step_appI rfl _ _ _ rfl Tryz.underlying23 Tryz.infoInt w.heap.size _ _ rfl rfl hown (by omega) hsz ?_; intro v1 w1 hown1 hb1))
      go_wp2
      go_roundw
      case rel => exact ⟨j + 1, by omega, by go_num, by rw [HP.out]; exact hown1, hbel.trans hb1⟩
      case measure => simp [intOf]; omega
    · clear hc
      go_wp2
      go_ret
      rw [List.take_of_length_le (by rw [HL.out]; omega)] at hown
      exact ⟨_, rfl, hown.rw HRD.out (Nat.le_refl _), hbel⟩
end Go.Proofs.YtlinkeemccnfmaaGreatDoor

set_option linter.unusedVariables false
set_option linter.unusedSimpArgs false
namespace Go.Proofs.YtlinkeemccnfmaaGreatDoor
open Go.RowKit
theorem Rw.grown {w w' : World} {lo hi base size n : Nat} {e : TypeId} {u v : Value} {xs : List Int} {vs : List Value} (h : Rw w lo hi u xs) (hv : w.ownsRow base e size v n vs) (he : e ≠ 3) (hg : w.grownBy w' v.ownBlock) : Rw w' lo hi u xs := by
  refine ⟨ownsRow_of_block h.1 fun k hk => hg.block k (h.1.lt k hk).2 fun e2 => ?_, h.2⟩
  rcases h.1.2 with ⟨rfl, _⟩ | ⟨g, cap, cur, rfl, hbg, hgg, rest⟩
  · simp [Value.ownBlock] at hk
  · rcases hv.2 with ⟨rfl, _⟩ | ⟨g', cap', cur', rfl, hbg', hgg', rest'⟩
    · simp [Value.ownBlock] at e2
    · simp only [Value.ownBlock, Option.some.injEq] at hk e2
      have hkg : g = g' := by omega
      subst hkg
      rw [hgg] at hgg'
      simp only [Option.some.injEq, Obj.cells.injEq] at hgg'
      exact he hgg'.2.1.symm
theorem Rw.alloc {w : World} {lo hi : Nat} {v : Value} {xs : List Int} (h : Rw w lo hi v xs) (o : Obj) : Rw (w.alloc o) lo hi v xs :=
  ⟨ownsRow_of_block h.1 fun k hk => Below.heap_alloc _ _ _ (h.1.lt k hk).2, h.2⟩
section
variable {P : Program}
theorem wpList_appG {ops : Array Oper} {rest : List Oper} {o : Oper} {a : Act} {Q : Exit → Act → World → Prop} {w : World} (hgd : o.guard = none) (s x : Operand) (t : TypeId)
    (ho : o.op = .call { callee := .builtin .append, args := #[s, x], argTypes := #[t, t] })
    (base : Nat) (e : TypeId) (i : TypeInfo) (z : Value) (size bytes : Nat) (ht : P.underlying t = some (.slice e)) (hi : P.info? e = some i) (hz : i.zero = some z)
    (hsize : i.size = size) (hby : i.bytes = bytes) (hzs : z.cells.size = size) (hsz : 0 < size)
    (v : Value) (n : Nat) (xs : List Value) (hs : a.eval s = v) (hown : w.ownsRow base e size v n xs)
    (news : List Value) (hx : a.eval x = .slice (some ⟨w.heap.size, 0, none⟩) 1 1) (hl : news.length = size) (h1 : ∀ u ∈ news, u.oneCell' = true)
    (hn : n ≤ 1099511627776) (hb : bytes ≤ 64) (hbase : base ≤ w.heap.size)
    (h : ∀ v' w', w'.ownsRow base e size v' (n + 1) (xs ++ news) → (w.alloc (.cells news.toArray e)).grownBy w' v.ownBlock → Below base w w' → wpList P ops Q rest (a.put o.dst v') w') :
    wpList P ops Q (o :: rest) a (w.alloc (.cells news.toArray e)) := by
  refine wpList_append_own _ hgd s x t ho base e i z size bytes ht hi hz hsize hby hzs hsz v n xs hs (hown.alloc _) ⟨w.heap.size, 0, none⟩ 1 1 news hx (by omega) ?_ h1 ?_ ?_ ?_ ?_
  · intro j u hu
    have hadd : (⟨w.heap.size, 0, none⟩ : Addr).add j = ⟨w.heap.size, j, none⟩ := by unfold Addr.add; split <;> simp_all
    rw [hadd, World.cell?_alloc_at _ _ _ _ rfl, List.getElem?_toArray]; exact hu
  · unfold maxLen; omega
  · exact Nat.le_trans (Nat.mul_le_mul (show n + 1 ≤ 1099511627776 + 1 by omega) hb) (by omega)
  · simp; omega
  · intro v' w' hown' hg _
    refine h v' w' hown' hg ?_
    exact ((Below.refl _ _).alloc hbase _).grown hg (by simp; omega) (fun k hk => (hown.lt k hk).1)
end
end Go.Proofs.YtlinkeemccnfmaaGreatDoor

set_option linter.unusedVariables false
set_option linter.unusedSimpArgs false
namespace Go.Proofs.YtlinkeemccnfmaaGreatDoor
open Go.RowKit
def Apart (u : Value) (o : Option Nat) : Prop := ∀ a n c, u = .slice (some a) n c → 0 < n → some a.block ≠ o
theorem IsI.grownG {w w' : World} {B : Nat} {u : Value} {xs : List Int} {o : Option Nat} (h : IsI w B u xs) (hB : B ≤ w.heap.size) (ha : Apart u o) (hg : w.grownBy w' o) : IsI w' B u xs := by
  obtain ⟨a, cap, rfl, hm, hr, hc⟩ := h
  refine ⟨a, cap, rfl, hm, hr, fun i hi => ?_⟩
  obtain ⟨b, off, rfl, hb, hcell⟩ := hc i hi
  exact ⟨b, off, rfl, hb, fun j hj => (World.cell?_of_block (w := w) (a := ⟨b, off + j, none⟩) (hg.block b (by omega) (ha _ _ _ rfl (by omega)))).trans (hcell j hj)⟩
theorem Rw.apart {w : World} {lo hi : Nat} {u : Value} {xs : List Int} (h : Rw w lo hi u xs) {o : Option Nat} (ho : ∀ k, o = some k → k < lo ∨ hi ≤ k) : Apart u o := by
  intro a n c hu _ e
  rcases h.1.2 with ⟨hn, _⟩ | ⟨g, cap, cur, hg, hbg, _⟩
  · rw [hn] at hu; cases hu
  · rw [hg] at hu
    simp only [Value.slice.injEq, Option.some.injEq] at hu
    have := h.2.1 g (by rw [hg]; rfl)
    have h2 := ho _ e.symm
    rw [← hu.1] at h2
    simp only at h2
    omega
theorem IsI.apart {w : World} {u : Value} {xs : List Int} (h : IsI w w.heap.size u xs) : Apart u (some w.heap.size) := by
  intro a n c he hn e
  obtain ⟨a', cap', he', hm', -, hc'⟩ := h
  rw [he'] at he
  simp only [Value.slice.injEq] at he
  obtain ⟨b, off, ha, hb, _⟩ := hc' 0 (by omega)
  rw [ha] at he
  simp only [Option.some.injEq] at he e
  rw [← he.1] at e
  simp only at e
  omega
def fD (xs : List Int) : List Int := (List.range xs.length).map fun i => el (dN xs i) 0
theorem fD_len (xs : List Int) : (fD xs).length = xs.length := by simp [fD]
theorem fD_el {xs : List Int} {k : Nat} (h : k < xs.length) : el (fD xs) k = el (dN xs k) 0 := by
  unfold fD; rw [el_map _ _ _ (by simpa using h)]; simp
theorem fD_take {xs : List Int} {j : Nat} (h : j < xs.length) : (fD xs).take (j + 1) = (fD xs).take j ++ [el (dN xs j) 0] := by
  rw [take_el (by rw [fD_len]; exact h), fD_el h]
theorem wpList_appIG {P : Program} {ops : Array Oper} {rest : List Oper} {o : Oper} {a : Act} {Q : Exit → Act → World → Prop} {w : World} {y : Int} (hgd : o.guard = none) (s x : Operand) (T : TypeId)
    (ho : o.op = .call { callee := .builtin .append, args := #[s, x], argTypes := #[T, T] }) (hT : P.underlying T = some (.slice 3))
    (hinf : (P.info? 3).map (fun i => (i.zero, i.size, i.bytes)) = some (some (.int .i64 0), 1, 8))
    (B : Nat) (v : Value) (xs : List Int) (hs : a.eval s = v) (hx : a.eval x = .slice (some ⟨w.heap.size, 0, none⟩) 1 1) (hown : OwnI w B v xs) (hn : xs.length ≤ 1099511627776) (hbase : B ≤ w.heap.size)
    (h : ∀ v' w', OwnI w' B v' (xs ++ [y]) → (w.alloc (.cells #[.int .i64 y] 3)).grownBy w' v.ownBlock → Below B w w' → wpList P ops Q rest (a.put o.dst v') w') :
    wpList P ops Q (o :: rest) a (w.alloc (.cells #[.int .i64 y] 3)) := by
  obtain ⟨i0, hi, hz0, hz1, hz2⟩ := info_parts hinf
  refine wpList_appG (news := [.int .i64 y]) hgd s x T ho B 3 i0 _ 1 8 hT hi hz0 hz1 hz2 rfl (by omega) v _ _ hs hown hx rfl (by simp [Value.oneCell']) hn (by omega) hbase fun v' w' h1 h2 h3 => h v' w' ?_ h2 h3
  unfold OwnI
  simpa using h1
theorem c_iPolyValid (v : Value) (xs : List Int) (B : Nat) (w : World) (hv : IsI w B v xs) :
    Calls Tryz.prog 31 #[v] w fun e w' => e = .returned (.bool (PV xs)) ∧ w = w' := by
  have hv' := hv
  obtain ⟨a, cap, rfl, hm, hr, hc⟩ := hv
  unfold maxLen at hm
  clear hr hc
  have H1 : Hid (xs.length < 1 ∨ 7 < xs.length → PV xs = false) := fun h => PV_len (inB_no (by omega))
  have H2 : Hid (1 ≤ xs.length ∧ xs.length ≤ 7 → PV xs = alw 100000 xs) := fun h => PV_len' (inB_yes (by omega) (by omega))
  by_cases g1 : 1 ≤ xs.length
  · by_cases g2 : xs.length ≤ 7
    · go_enter Tryz.func31, Tryz.ntmps31
      go_wp2_with (go_at_call 45; refine (c_allWithin _ xs _ B _ (by omega) (by omega) hv').mono ?_; rintro e w' ⟨rfl, rfl⟩)
      go_ret
      exact ⟨retB (H2.out ⟨g1, g2⟩).symm, rfl⟩
    · go_enter Tryz.func31, Tryz.ntmps31
      go_wp2
      go_ret
      exact ⟨retB (H1.out (by omega)).symm, rfl⟩
  · go_enter Tryz.func31, Tryz.ntmps31
    go_wp2
    go_ret
    exact ⟨retB (H1.out (by omega)).symm, rfl⟩
theorem c_checkedY (v : Value) (xs : List Int) (B : Nat) (w : World) (hv : IsI w B v xs) (h : PV xs = true) :
    Calls Tryz.prog 58 #[v] w fun e w' => e = .returned (.tuple #[v, .bool true]) ∧ w = w' := by
  go_enter Tryz.func58, Tryz.ntmps58
  go_wp2_with fail
  refine (c_iPolyValid _ xs _ _ hv).mono ?_
  rw [h]
  rintro e wx ⟨rfl, rfl⟩
  go_wp2
  go_ret2
  exact ⟨rfl, rfl⟩
theorem c_checkedN (v : Value) (xs : List Int) (B : Nat) (w : World) (hv : IsI w B v xs) (h : PV xs = false) :
    Calls Tryz.prog 58 #[v] w fun e w' => e = .returned (.tuple #[.slice none 0 0, .bool false]) ∧ w = w' := by
  go_enter Tryz.func58, Tryz.ntmps58
  go_wp2_with fail
  refine (c_iPolyValid _ xs _ _ hv).mono ?_
  rw [h]
  rintro e wx ⟨rfl, rfl⟩
  go_wp2
  go_ret2
  exact ⟨rfl, rfl⟩
end Go.Proofs.YtlinkeemccnfmaaGreatDoor

set_option linter.unusedVariables false
set_option linter.unusedSimpArgs false
namespace Go.Proofs.YtlinkeemccnfmaaGreatDoor
open Go.RowKit
theorem IsI.sub {w : World} {B n b off cap : Nat} {xs : List Int} (h : IsI w B (.slice (some ⟨b, off, none⟩) n cap) xs) {lo m : Nat} (hm : lo + m ≤ xs.length) : IsI w B (.slice (some ⟨b, off + lo, none⟩) m (cap - lo)) ((xs.drop lo).take m) := by
  obtain ⟨a', cap', he, hmm, hr, hc⟩ := h
  simp only [Value.slice.injEq] at he
  obtain ⟨rfl, rfl, rfl⟩ := he
  have hl : ((xs.drop lo).take m).length = m := by rw [List.length_take, List.length_drop]; omega
  refine ⟨_, cap - lo, by rw [hl], ⟨by omega, by omega, fun h => by cases h⟩, (hr.drop lo).take m, fun i hi => ?_⟩
  rw [hl] at hi
  obtain ⟨b', off', ha, hb, hcell⟩ := hc (lo + i) (by omega)
  simp only [Option.some.injEq, Addr.mk.injEq, and_true] at ha
  obtain ⟨rfl, rfl⟩ := ha
  refine ⟨b, off + lo, rfl, hb, fun j hj => ?_⟩
  rw [hl] at hj
  rw [el_take hj, el_drop, Nat.add_assoc]; exact hcell (lo + j) (by omega)
def pvL (p : List Int) : List Int := if PV p then p else []
end Go.Proofs.YtlinkeemccnfmaaGreatDoor

set_option linter.unusedVariables false
set_option linter.unusedSimpArgs false
namespace Go.Proofs.YtlinkeemccnfmaaGreatDoor
open Go.RowKit
theorem c_valueAt (v : Value) (p : List Int) (n : Int) (B : Nat) (w : World) (hv : IsI w B v p) (hp : Bd 100000 p) (hn : -300 ≤ n ∧ n ≤ 300) (hl : p.length ≤ 7) :
    Calls Tryz.prog 33 #[v, .int .i64 n] w fun e w' => e = .returned (.int .i64 (evF p n)) ∧ w = w' := by
  obtain ⟨a, cap, rfl, hm, hr, hc⟩ := hv
  unfold maxLen at hm
  have HB := hid (ev_bd hp hn hl)
  have HP := hid hp
  have HN := hid hn
  clear hr hp hn
  go_enter Tryz.func33, Tryz.ntmps33
  go_wp2
  go_loop [5, 10] (fun s i => ∃ j : Nat, j ≤ p.length ∧ i = .int .i64 j ∧ s = .int .i64 (evT p n j)) (fun _ i => p.length - (intOf i).toNat)
  case atStart => exact ⟨0, Nat.zero_le _, rfl, rfl⟩
  case round =>
    obtain ⟨j, hj, rfl, rfl⟩ := hrel
    by_cases hlt : j < p.length
    · obtain ⟨b, off, rfl, hb, hcell⟩ := hc j hlt
      have hce := hcell j hlt
      obtain ⟨h1, h2⟩ := HP.out j hlt
      obtain ⟨h3, h4⟩ := ch_bd6 (n := n) (k := j) HN.out (by omega)
      obtain ⟨h5, h6⟩ := mul_bd (a := el p j) (b := chF n j) (A := 100000) (B := 1064089721800) (by omega) h1 h2 h3 h4
      obtain ⟨h7, h8⟩ := HB.out j hj
      have HE : Hid (evT p n (j + 1) = evT p n j + el p j * chF n j) := rfl
      have hj7 : j ≤ 7 := by omega
      clear hc hcell h1 h2 h3 h4
      go_wp2_with fail
      refine (c_choose _ _ _ HN.out hj7).mono ?_
      rintro e wx ⟨rfl, rfl⟩
      go_wp2
      go_round
      case rel => exact ⟨j + 1, by omega, by go_num, by rw [HE.out]⟩
      case measure => simp [intOf]; omega
    · obtain rfl : j = p.length := by omega
      clear hc
      go_wp2
      go_ret
      exact ⟨rfl, rfl⟩
theorem c_ValuesOfY (v : Value) (p : List Int) (a : Int) (n : Nat) (w : World) (hv : IsI w w.heap.size v p) (hP : PV p = true) (ha : -200 ≤ a ∧ a ≤ 200) (hn : n ≤ 60) (han : a + n - 1 ≤ 200) :
    Calls Tryz.prog 9 #[v, .int .i64 a, .int .i64 n] w (RetRowB w (valF p a 1 n) true) := by
  obtain ⟨hpl0, hpl1, hpb⟩ := PV_iff.1 hP
  have HPB := hid (PV_Bd hP)
  have HBD := hid (valF_bd (p := p) (a := a) (s := 1) (n := n) (PV_Bd hP) hpl1 (fun j hj => by omega))
  have HL := hid (valF_len p a 1 n)
  have hin : inB a (-200) 200 = true := inB_yes ha.1 ha.2
  obtain ⟨av, capv, hva⟩ : ∃ a cap, v = .slice a p.length cap := ⟨_, _, hv.choose_spec.choose_spec.1⟩
  subst hva
  have hmk := mk_ints Tryz.underlying23 Tryz.infoInt n (by omega)
  have HM := made_zero n
  generalize madeCells #[Value.int .i64 0] n = mc at *
  have HM' : Hid (mc = ((List.replicate n (0 : Int)).map (Value.int .i64)).toArray) := HM
  have hB0 := (Blk.new (w := w) HM'.out)
  have b0 : Below w.heap.size w (w.alloc (.cells mc 3)) := RetRow.e1 _ _
  have HB0 := hid hB0
  clear HM hpb hB0
  go_enter Tryz.func9, Tryz.ntmps9
  go_wp2_with fail
  refine (c_iPolyValid _ p _ _ hv).mono ?_
  rw [hP]
  rintro e wx ⟨rfl, rfl⟩
  go_wp2_with fail
  refine (c_within _ _ _ (by omega) (by omega)).mono ?_
  rw [hin]
  rintro e wx ⟨rfl, rfl⟩
  clear hin
  go_wp2
  go_loopw [35] (fun i wr => ∃ (j : Nat) (ys : List Int), j ≤ n ∧ i = .int .i64 j ∧ Blk wr w.heap.size ys ∧ Hid (ys.length = n) ∧ Hid (ys.take j = (valF p a 1 n).take j) ∧ Below w.heap.size w wr) (fun i _ => n - (intOf i).toNat)
  case atStart => exact ⟨0, List.replicate n 0, Nat.zero_le _, rfl, HB0.out, by show _ = _; simp, by show _ = _; simp, b0⟩
  case round =>
    clear b0
    obtain ⟨j, ys, hj, rfl, HB, HLN, HT, hbel⟩ := hrel
    clear hmk
    by_cases hlt : j < n
    · have hd := HB.cell j (by rw [HLN.out]; exact hlt)
      have hf := HB.free j
      have hvr := hv.below hbel (Nat.le_refl _)
      have hev := ev_bd7 HPB.out (n := a + j) ⟨by omega, by omega⟩ hpl1
      have HE := hid (valF_el (p := p) (a := a) (s := 1) hlt)
      go_wp2_with fail
      refine (c_valueAt _ p _ _ _ hvr HPB.out ⟨by omega, by omega⟩ hpl1).mono ?_
      rintro e wx ⟨rfl, rfl⟩
      clear hvr
      go_wp2
      go_roundw
      case rel => exact ⟨j + 1, ys.set j (evF p (a + j)), by omega, by go_num, HB.set _ _, by show _ = _; simpa using HLN.out, take_set (by rw [HL.out]; exact hlt) (by rw [HL.out, HLN.out]) (by rw [HE.out, Int.one_mul]) HT.out, hbel.setCell (Nat.le_refl _) _⟩
      case measure => simp [intOf]; omega
    · obtain rfl : j = n := by omega
      go_wp2
      go_ret2
      have e1 := HT.out
      rw [List.take_of_length_le (by rw [HLN.out]; omega), List.take_of_length_le (by rw [HL.out]; omega)] at e1
      subst e1
      have hlt' := HB.lt
      refine ⟨_, rfl, ?_, hbel⟩
      have := HB.rw (Nat.le_refl _) hlt' (by rw [HL.out]; unfold maxLen; omega) (HBD.out.r64 (by omega))
      rwa [HL.out] at this
end Go.Proofs.YtlinkeemccnfmaaGreatDoor

