/- What is proved here: those statements of Pol that this claim needs. -/
import Derived.Test.YtlinkeemccnfmaaGreatDoorSlc
set_option linter.unusedVariables false
set_option linter.unusedSimpArgs false
namespace Go.Proofs.YtlinkeemccnfmaaGreatDoor
open Go.RowKit
def evT (p : List Int) (n : Int) : Nat → Int
  | 0 => 0
  | k + 1 => evT p n k + el p k * chF n k
def evF (p : List Int) (n : Int) : Int := evT p n p.length
theorem Chg.bel {lo hi : Nat} {w a b : World} (h : Chg lo hi w a) (hb : Below w.heap.size a b) : Chg lo hi w b :=
  ⟨hb.os.trans h.os, hb.tape.trans h.tape, hb.output.trans h.output, Nat.le_trans h.size hb.size, fun k hk hd => (hb.block k hk).trans (h.block k hk hd)⟩
theorem ev_bd {p : List Int} {n : Int} (hp : Bd 100000 p) (hn : -300 ≤ n ∧ n ≤ 300) (hl : p.length ≤ 7) : ∀ k, k ≤ p.length → -(106408972180000000 * (k : Int)) ≤ evT p n k ∧ evT p n k ≤ 106408972180000000 * (k : Int) := by
  intro k
  induction k with
  | zero => intro _; simp [evT]
  | succ k ih =>
    intro hk
    obtain ⟨i1, i2⟩ := ih (by omega)
    obtain ⟨h1, h2⟩ := hp k (by omega)
    obtain ⟨h3, h4⟩ := ch_bd6 (n := n) (k := k) hn (by omega)
    obtain ⟨h5, h6⟩ := mul_bd (a := el p k) (b := chF n k) (A := 100000) (B := 1064089721800) (by omega) h1 h2 h3 h4
    unfold evT
    omega
theorem ev_bd7 {p : List Int} {n : Int} (hp : Bd 100000 p) (hn : -300 ≤ n ∧ n ≤ 300) (hl : p.length ≤ 7) : -744862805260000000 ≤ evF p n ∧ evF p n ≤ 744862805260000000 := by
  have := ev_bd hp hn hl p.length (Nat.le_refl _)
  unfold evF; omega
theorem c_l2Eval (v : Value) (p : List Int) (n : Int) (w : World) (hv : IsI w w.heap.size v p) (hp : Bd 100000 p) (hn : -300 ≤ n ∧ n ≤ 300) (hl : p.length ≤ 7) :
    Calls Tryz.prog 79 #[v, .int .i64 n] w fun e w' => e = .returned (.int .i64 (evF p n)) ∧ Chg 0 0 w w' := by
  obtain ⟨a, cap, rfl, hm, hr, hc⟩ := hv
  unfold maxLen at hm
  have HB := hid (ev_bd hp hn hl)
  have HP := hid hp
  have HN := hid hn
  clear hr hp hn
  go_enter Tryz.func79, Tryz.ntmps79
  go_wp2
  go_loopw [5, 6] (fun s i wr => ∃ j : Nat, j ≤ p.length ∧ i = .int .i64 j ∧ s = .int .i64 (evT p n j) ∧ Chg 0 0 w wr) (fun _ i _ => p.length - (intOf i).toNat)
  case atStart => exact ⟨0, Nat.zero_le _, rfl, rfl, Chg.refl _ _ _⟩
  case round =>
    obtain ⟨j, hj, rfl, rfl, cr⟩ := hrel
    by_cases hlt : j < p.length
    · obtain ⟨b, off, rfl, hb, hcell⟩ := hc j hlt
      have hce := ((cr.below (B := w.heap.size) (by omega) (Nat.le_refl _)).cell (p := ⟨b, off + j, none⟩) hb).trans (hcell j hlt)
      obtain ⟨h1, h2⟩ := HP.out j hlt
      obtain ⟨h3, h4⟩ := ch_bd6 (n := n) (k := j) HN.out (by omega)
      obtain ⟨h5, h6⟩ := mul_bd (a := el p j) (b := chF n j) (A := 100000) (B := 1064089721800) (by omega) h1 h2 h3 h4
      obtain ⟨h7, h8⟩ := HB.out j hj
      have k1 : IntKind.i64.wrap (el p j * chF n j) = el p j * chF n j := IntWalk.i64_in _ (by omega)
      have k2 : IntKind.i64.wrap (evT p n j + el p j * chF n j) = evT p n j + el p j * chF n j := IntWalk.i64_in _ (by omega)
      have HE : Hid (evT p n (j + 1) = evT p n j + el p j * chF n j) := rfl
      have k3 : 0 ≤ (j : Int) := by omega
      have k4 : (j : Int) < p.length := by omega
      have hj7 : j ≤ 7 := by omega
      clear hc hcell h1 h2 h3 h4 h5 h6 h7 h8
      go_wp2_with fail
      go_quiet ((go_at_call 91; exact cq (c_l2Choose _ _ _ HN.out hj7)))
      clear k1 k2
      go_wp2
      go_roundw
      case rel => exact ⟨j + 1, by omega, by go_num, by rw [HE.out], cr.drewN nq⟩
      case measure => simp [intOf]; omega
    · obtain rfl : j = p.length := by omega
      clear hc
      go_wp2
      go_ret
      exact ⟨rfl, cr⟩
def valF (p : List Int) (a s : Int) (n : Nat) : List Int := (List.range n).map fun (i : Nat) => evF p (a + s * i)
theorem valF_len (p : List Int) (a s : Int) (n : Nat) : (valF p a s n).length = n := by simp [valF]
theorem valF_el {p : List Int} {a s : Int} {n j : Nat} (h : j < n) : el (valF p a s n) j = evF p (a + s * j) := by
  unfold valF; rw [el_map _ _ _ (by simpa using h)]; simp
theorem valF_bd {p : List Int} {a s : Int} {n : Nat} (hp : Bd 100000 p) (hl : p.length ≤ 7) (hr : ∀ j : Nat, j < n → -300 ≤ a + s * j ∧ a + s * j ≤ 300) : Bd 744862805260000000 (valF p a s n) := by
  intro k hk
  rw [valF_len] at hk
  rw [valF_el hk]
  exact ev_bd7 hp (hr k hk) hl
theorem c_l2Values (v : Value) (p : List Int) (a s : Int) (n : Nat) (w : World) (hv : IsI w w.heap.size v p) (hp : Bd 100000 p) (hl : p.length ≤ 7) (hn : n ≤ 1000) (ha : -300 ≤ a ∧ a ≤ 300) (hs : -300 ≤ s ∧ s ≤ 300) (hr : ∀ j : Nat, j < n → -300 ≤ a + s * j ∧ a + s * j ≤ 300) :
    Calls Tryz.prog 62 #[v, .int .i64 a, .int .i64 s, .int .i64 n] w (RetRow w (valF p a s n)) := by
  obtain ⟨ad, cap, hva⟩ : ∃ a cap, v = .slice a p.length cap := ⟨_, _, hv.choose_spec.choose_spec.1⟩
  subst hva
  have HBD := hid (valF_bd hp hl hr)
  have HL := hid (valF_len p a s n)
  have HR := hid hr
  clear hr
  go_enter Tryz.func62, Tryz.ntmps62
  go_wp2
  go_loopw [9, 10] (fun v i wr => ∃ j : Nat, j ≤ n ∧ i = .int .i64 j ∧ OwnI wr w.heap.size v ((valF p a s n).take j) ∧ Below w.heap.size w wr) (fun _ i _ => n - (intOf i).toNat)
  case atStart => exact ⟨0, Nat.zero_le _, rfl, OwnI.empty _ (Nat.le_refl _) rfl, (Below.refl _ _).alloc (Nat.le_refl _) _⟩
  case round =>
    obtain ⟨j, hj, rfl, hown, hbel⟩ := hrel
    have hsz := hbel.size
    have hyl : ((valF p a s n).take j).length ≤ 1000 := by have := List.length_take_le j (valF p a s n); omega
    by_cases hlt : j < n
    · obtain ⟨r1, r2⟩ := HR.out j hlt
      have m1 := mul_bd (a := s) (b := (j : Int)) (A := 300) (B := 1000) (by omega) hs.1 hs.2 (by omega) (by omega)
      have k1 : IntKind.i64.wrap (s * (j : Int)) = s * j := IntWalk.i64_in _ (by omega)
      have k2 : IntKind.i64.wrap (a + s * (j : Int)) = a + s * j := IntWalk.i64_in _ (by omega)
      have HP : Hid ((valF p a s n).take (j + 1) = (valF p a s n).take j ++ [evF p (a + s * j)]) := by
        show _ = _
        rw [take_el (by rw [HL.out]; exact hlt), valF_el hlt]
      have hvr := hv.below hbel (Nat.le_refl _)
      clear m1
      go_wp2_with fail
      refine (c_l2Eval _ p _ _ (hvr.up hsz) hp ⟨r1, r2⟩ hl).mono ?_
      rintro e w1 ⟨rfl, c1⟩
      have b1 := c1.below (B := w.heap.size) (by omega) (by omega)
      have hsz1 := b1.size
      have hown1 := ownsRow_of_block hown (w' := w1) fun k hk => c1.block k (hown.lt k hk).2 (by omega)
      replace hbel := hbel.trans b1
      clear b1 c1 hvr hown k1 k2
      go_wp2_with (at_builtin; refine wpList_appI rfl _ _ _ rfl Tryz.underlying23 Tryz.infoInt w.heap.size _ _ (by rfl) (by rfl) hown1 (by omega) (by omega) ?_; intro v2 w2 hown2 hb2)
      go_roundw
      case rel => exact ⟨j + 1, by omega, by go_num, by rw [HP.out]; exact hown2, hbel.trans hb2⟩
      case measure => simp [intOf]; omega
    · obtain rfl : j = n := by omega
      go_wp2
      go_ret
      rw [List.take_of_length_le (by rw [HL.out]; omega)] at hown
      exact ⟨_, rfl, hown.rw (HBD.out.r64 (by omega)) (Nat.le_refl _), hbel⟩
end Go.Proofs.YtlinkeemccnfmaaGreatDoor
