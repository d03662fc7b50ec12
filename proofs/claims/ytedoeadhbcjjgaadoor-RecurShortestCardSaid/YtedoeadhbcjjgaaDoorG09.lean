/- Joined by program (merge.py) out of 1 texts, a part of the proof: contracts of the functions that the statement reaches, and plain mathematics. No statement of the seat stands here. -/
import Derived.Test.YtedoeadhbcjjgaaDoorG08
/- big.over: of a number by one of two limbs or more. -/
namespace Go.Proofs.YtedoeadhbcjjgaaDoor
open Go.RowKit

theorem lz_facts {b : Nat} (hb : b ≠ 0) : ∃ n, n < 64 ∧ 64 - bitLen ((limbs b).getD ((limbs b).length - 1) 0) = n ∧ bitLen ((limbs b).getD ((limbs b).length - 1) 0) ≤ 64 ∧ (limbs (b * 2 ^ n)).length = (limbs b).length ∧ BW ^ (limbs b).length ≤ 2 * (b * 2 ^ n) := by
  have hl : 0 < (limbs b).length := List.length_pos_iff.2 (limbs_ne hb)
  obtain ⟨t, ht⟩ : ∃ t, t = (limbs b).getD ((limbs b).length - 1) 0 := ⟨_, rfl⟩
  have ht0 : t ≠ 0 := by rw [ht]; exact limbs_top hb
  have htb : t < BW := by rw [ht]; exact (Bd_limbs b).getD _
  rw [← ht]
  obtain ⟨h1, h2, h3, h4⟩ := bitLen_bounds ht0 htb
  refine ⟨64 - bitLen t, by omega, rfl, h4, ?_, ?_⟩
  all_goals
    obtain ⟨k, hk⟩ : ∃ k, k = (limbs b).length - 1 := ⟨_, rfl⟩
    have hkl : (limbs b).length = k + 1 := by omega
    have hv : b = val ((limbs b).take k) + BW ^ k * t := by
      conv => lhs; rw [← val_limbs b]
      have := val_take_succ (limbs b) k
      rw [List.take_of_length_le (by omega), hk, ← ht, ← hk] at this
      exact this
    have hr : val ((limbs b).take k) < BW ^ k := by
      have := val_lt ((Bd_limbs b).take k)
      rwa [List.length_take, Nat.min_eq_left (by omega)] at this
    generalize val ((limbs b).take k) = r at *
    obtain ⟨L, hL⟩ : ∃ L, L = bitLen t := ⟨_, rfl⟩
    rw [← hL] at h1 h2 h3 h4 ⊢
    have hst : (2 : Nat) ^ (64 - L) * 2 ^ L = BW := by rw [← Nat.pow_add, BW_pow]; congr 1; omega
    have hsp : 0 < 2 ^ (64 - L) := Nat.pow_pos (by omega)
  · apply Nat.le_antisymm
    · rw [limbs_length_le, hkl, Nat.pow_succ]
      generalize BW ^ k = p at *
      rw [← hst]
      have h5 : b < p * 2 ^ L := by
        have : p * (t + 1) ≤ p * 2 ^ L := Nat.mul_le_mul_left _ h3
        rw [Nat.mul_add] at this
        rw [hv]; omega
      rw [Nat.mul_comm (2 ^ (64 - L)), ← Nat.mul_assoc]
      exact Nat.mul_lt_mul_of_pos_right h5 hsp
    · exact limbs_length_mono (Nat.le_mul_of_pos_right _ hsp)
  · rw [hkl, Nat.pow_succ]
    generalize BW ^ k = p at *
    rw [← hst]
    have h5 : p * 2 ^ (L - 1) ≤ b := by
      have : p * 2 ^ (L - 1) ≤ p * t := Nat.mul_le_mul_left _ h2
      rw [hv]; omega
    have h6 : (2 : Nat) ^ L = 2 * 2 ^ (L - 1) := by rw [← Nat.pow_succ']; congr 1; omega
    rw [h6]
    have h7 := Nat.mul_le_mul_right (2 ^ (64 - L)) h5
    have e : p * (2 ^ (64 - L) * (2 * 2 ^ (L - 1))) = 2 * (p * 2 ^ (L - 1) * 2 ^ (64 - L)) := by ac_rfl
    rw [e]; omega

theorem over_lu {a n la : Nat} (hla : la = (limbs a).length) (hn : n < 64) : la ≤ (limbs (a * 2 ^ n)).length ∧ (limbs (a * 2 ^ n)).length ≤ la + 1 := by
  constructor
  · rw [hla]; exact limbs_length_mono (Nat.le_mul_of_pos_right _ (Nat.pow_pos (by omega)))
  · rw [limbs_length_le, Nat.pow_succ]
    have h2 := limbs_lt a
    rw [← hla] at h2
    have h3 : (2 : Nat) ^ n ≤ BW := by rw [BW_pow]; exact Nat.pow_le_pow_right (by omega) (by omega)
    exact Nat.lt_of_lt_of_le (Nat.mul_lt_mul_of_pos_right h2 (Nat.pow_pos (by omega))) (Nat.mul_le_mul_left _ h3)

theorem over_bnd {a b n la lb : Nat} (hla : la = (limbs a).length) (hn : n < 64) (hlab : lb ≤ la) (hnorm : BW ^ lb ≤ 2 * (b * 2 ^ n)) :
    a * 2 ^ n < b * 2 ^ n * BW ^ (la - lb + 1) := by
  have h2 := limbs_lt a
  rw [← hla] at h2
  have h3 : 2 * (2 : Nat) ^ n ≤ BW := by
    rw [BW_pow, ← Nat.pow_succ']; exact Nat.pow_le_pow_right (by omega) (by omega)
  have hs : BW ^ lb * BW ^ (la - lb + 1) = BW ^ la * BW := by
    rw [← Nat.pow_add, ← Nat.pow_succ]; congr 1; omega
  have hp : 0 < (2 : Nat) ^ n := Nat.pow_pos (by omega)
  generalize BW ^ (la - lb + 1) = r at *
  generalize BW ^ lb = s at *
  generalize BW ^ la = p at *
  generalize BW = W at *
  generalize (2 : Nat) ^ n = q at *
  have h4 : 2 * (a * q) < p * W := by
    have h5 : a * (2 * q) < p * (2 * q) := Nat.mul_lt_mul_of_pos_right h2 (by omega)
    have h6 : p * (2 * q) ≤ p * W := Nat.mul_le_mul_left _ h3
    have h7 : a * (2 * q) = 2 * (a * q) := by ac_rfl
    omega
  have h8 := Nat.mul_le_mul_right r hnorm
  rw [hs, Nat.mul_assoc] at h8
  omega

theorem over_atEnd (x y : Nat) (k : Nat) : x = x + y * val ((List.replicate k 0).drop k) := by
  rw [List.drop_of_length_le (by rw [List.length_replicate]; exact Nat.le_refl _)]
  rw [show val ([] : List Nat) = 0 from rfl, Nat.mul_zero, Nat.add_zero]

theorem over_window {us : List Nat} {k lb V : Nat} (hlen : k + (lb + 1) ≤ us.length) (hV : V < BW ^ lb) (hlt : val us < V * BW ^ (k + 1)) (hbd : Bd us) :
    ∃ P ws S, us = P ++ ws ++ S ∧ P.length = k ∧ ws.length = lb + 1 ∧ val S = 0 ∧ val P < BW ^ k ∧ val us = val P + BW ^ k * val ws ∧ val ws < BW * V := by
  obtain ⟨h1, h2, h3⟩ := val_three hlen
  obtain ⟨P, hP⟩ : ∃ P, P = us.take k := ⟨_, rfl⟩
  obtain ⟨ws, hws⟩ : ∃ ws, ws = (us.drop k).take (lb + 1) := ⟨_, rfl⟩
  obtain ⟨S, hS⟩ : ∃ S, S = us.drop (k + (lb + 1)) := ⟨_, rfl⟩
  rw [← hP, ← hws, ← hS] at h1
  rw [← hP] at h2
  rw [← hws] at h3
  have hPl : val P < BW ^ k := by
    have := val_lt (hbd.take k)
    rwa [← hP, h2] at this
  have hv : val us = val P + BW ^ k * val ws + BW ^ (k + (lb + 1)) * val S := by
    conv => lhs; rw [h1]
    exact val_pws h2 h3
  have hS0 : val S = 0 := by
    have e : BW ^ lb * BW ^ (k + 1) = BW ^ (k + (lb + 1)) := by rw [← Nat.pow_add]; congr 1; omega
    have h4 : V * BW ^ (k + 1) ≤ BW ^ lb * BW ^ (k + 1) := Nat.mul_le_mul_right _ (Nat.le_of_lt hV)
    rw [e] at h4
    rcases Nat.eq_zero_or_pos (val S) with h | h
    · exact h
    · have h5 : BW ^ (k + (lb + 1)) * 1 ≤ BW ^ (k + (lb + 1)) * val S := Nat.mul_le_mul_left _ h
      generalize BW ^ (k + (lb + 1)) = r at *
      generalize BW ^ (k + 1) = r2 at *
      generalize BW ^ k = r3 at *
      generalize V * r2 = r4 at *
      generalize r3 * val ws = r5 at *
      generalize r * val S = r6 at *
      omega
  rw [hS0, Nat.mul_zero, Nat.add_zero] at hv
  refine ⟨P, ws, S, h1, h2, h3, hS0, hPl, hv, ?_⟩
  rw [hv, Nat.pow_succ] at hlt
  exact window_lt hlt

theorem over_round {P ws ws' S zs : List Nat} {k lb V A : Nat} (hP : P.length = k) (hws' : ws'.length = lb + 1) (hS : val S = 0) (hPl : val P < BW ^ k) (hz : k < zs.length) (hV : 0 < V)
    (hA : A = val P + BW ^ k * val ws + V * BW ^ (k + 1) * val (zs.drop (k + 1))) (hw : val ws' = val ws % V) :
    val (P ++ ws' ++ S) < V * BW ^ k ∧ A = val (P ++ ws' ++ S) + V * BW ^ k * val ((zs.set k (val ws / V)).drop k) := by
  have h1 : val (P ++ ws' ++ S) = val P + BW ^ k * (val ws % V) := by
    rw [val_pws hP hws', hS, Nat.mul_zero, Nat.add_zero, hw]
  have h2 : val ((zs.set k (val ws / V)).drop k) = val ws / V + BW * val (zs.drop (k + 1)) := by
    have e : (zs.set k (val ws / V)).drop k = (val ws / V) :: zs.drop (k + 1) := by
      rw [List.drop_eq_getElem_cons (by rw [List.length_set]; exact hz), List.getElem_set_self, List.drop_set_of_lt (by omega)]
    rw [e]; rfl
  rw [h1, h2]
  rw [Nat.pow_succ] at hA
  exact ⟨long_lt hPl hV, long_step hA hV⟩

theorem over_rl {a b n la : Nat} (hla : la = (limbs a).length) (hb : b ≠ 0) (hle : b ≤ a) (hn : n < 64) : (limbs (a % b * 2 ^ n)).length ≤ la + 1 :=
  Nat.le_trans (limbs_length_mono (Nat.mul_le_mul_right _ (Nat.mod_le a b))) (over_lu hla hn).2

set_option maxRecDepth 100000 in
set_option maxHeartbeats 8000000 in
theorem over_long (va vb : Value) (a b : Nat) (w : World) (ha : SlU w va (limbs a)) (hb : SlU w vb (limbs b)) (hla : (limbs a).length ≤ 100000000) (hlb2 : 2 ≤ (limbs b).length) (hle : b ≤ a) :
    Calls Tryd.prog 50 #[va, vb] w (OverPost a b w) := by
  have hb0 : b ≠ 0 := by rintro rfl; rw [limbs_zero] at hlb2; simp at hlb2
  have hlab := limbs_length_mono hle
  obtain ⟨n, hn64, hn, hbl, hvl, hnorm⟩ := lz_facts hb0
  have HC := Lib.hid ((compare_any va vb a b w ha hb (by omega) (by omega)).mono (R' := fun e w' => (∃ c : Int, 0 ≤ c ∧ e = .returned (.int .i64 c)) ∧ ∃ n, w' = w.drewN n) (fun e w' h => ⟨⟨cmpI a b, by unfold cmpI; rw [if_neg (by omega)]; split <;> omega, h.1⟩, h.2⟩))
  have HSA := Lib.hid ha
  have HSB := Lib.hid hb
  obtain ⟨A, ca, rfl, _⟩ := ha.open_
  obtain ⟨B, cb, rfl, _⟩ := hb.open_
  obtain ⟨la, hlad⟩ : ∃ la, la = (limbs a).length := ⟨_, rfl⟩
  obtain ⟨lb, hlbd⟩ : ∃ lb, lb = (limbs b).length := ⟨_, rfl⟩
  obtain ⟨bb, ob, rfl, h1⟩ := hb.get (k := (limbs b).length - 1) (by omega)
  obtain ⟨t, ht⟩ : ∃ t, t = (limbs b).getD ((limbs b).length - 1) 0 := ⟨_, rfl⟩
  have htb : t < BW := by rw [ht]; exact (Bd_limbs b).getD _
  rw [← ht] at h1 hn hbl
  rw [← hlbd] at h1 hlab hvl hlb2 HSB HC hnorm ⊢
  rw [← hlad] at hla hlab HSA HC ⊢
  have hz : (64 : Int) - (bitLen t : Int) = (n : Int) := by omega
  have HT := Lib.hid htb
  have HVL := Lib.hid hvl
  have HNORM := Lib.hid hnorm
  have HLA := Lib.hid hlad
  have HLB := Lib.hid hlbd
  have HB0 := Lib.hid hb0
  have HLE := Lib.hid hle
  have hlb1 : ((lb : Int) == 1) = false := by simp; omega
  clear ha hb ht htb hn hbl hvl hnorm hlad hlbd hb0 hle
  go_enter Tryd.func50, Tryd.ntmps50
  go_wp2_with (first
    | (go_at_call 53; refine HC.out.mono ?_; rintro e w1 ⟨⟨c, hc, rfl⟩, nd, rfl⟩)
    | (go_at_call 72; refine (lz64_any t HT.out _).mono ?_; rintro e w' ⟨rfl, rfl⟩))
  have F1 : Fr [] w (w.drewN nd) := (Fr.refl [] w).drewN nd
  refine (left_any _ b n _ (HSB.out.keep0 F1) (by rw [← HLB.out]; omega) (by omega)).mono ?_
  rintro e w2 ⟨vv, rfl, hov, hfv⟩
  obtain ⟨gv, cv, hvv, hgv, hgv2, hcv, _⟩ := hov.at_ (by rw [HVL.out]; omega)
  rw [HVL.out] at hvv
  subst hvv
  have HOV : Hid (OwU w2 w.heap.size (.slice (some ⟨gv, 0, none⟩) lb cv) (limbs (b * 2 ^ n))) := Lib.hid hov
  have F2 : Hid (Fr [] w w2) := Lib.hid (F1.trans0 hfv)
  clear hov hfv F1 hcv
  go_wp2_with fail
  refine (left_any _ a n _ (HSA.out.keep0 F2.out) (by rw [← HLA.out]; omega) (by omega)).mono ?_
  rintro e w3 ⟨vu, rfl, hou, hfu⟩
  have HOU := Lib.hid hou
  have F3 := Lib.hid hfu
  clear hou hfu
  -- how long the scaled dividend is
  have hlu := over_lu HLA.out hn64
  have HLU := Lib.hid hlu
  have hp2 : (limbs (a * 2 ^ n) ++ [0, 0]).length = (limbs (a * 2 ^ n)).length + 2 := by simp
  have HP2 := Lib.hid hp2
  clear hlu hp2
  go_wp2_with (first
    | (at_builtin; refine wp_appendU rfl _ _ rfl w2.heap.size vu (limbs (a * 2 ^ n)) rfl (HOU.out.alloc _) w3.heap.size 0 2 [0, 0] rfl (by intro j hj; match j, hj with | 0, _ => simp [World.cell?_alloc_new] | 1, _ => simp [World.cell?_alloc_new]) (Bd.cons BW_pos (Bd.cons BW_pos Bd.nil)) (by have := HLU.out.2; simp; omega) (by have := F3.out.size; simp; omega) ?_; intro v4 w4 ho4 hf4 _ _; obtain ⟨g, c4, hv4, hg4, hg4b, hc4, _⟩ := ho4.at_ (by rw [HP2.out]; omega); rw [HP2.out] at hv4 hc4; subst hv4; have HO4 := Lib.hid ho4; have HF4 := Lib.hid (F3.out.alloc _ |>.trans_own (HOU.out.alloc _) hf4); have hcl : la + 1 ≤ c4 := (by have := HLU.out.1; omega); clear ho4 hf4)
    | (at_make; refine wp_makeU rfl _ _ rfl _ _ (la - lb + 1) rfl rfl (by omega) (by omega) (by omega) w.heap.size (by have := F2.out.size; have := HF4.out.size; omega) ?_; intro w5 hown hgrow hsz; have HO5 := Lib.hid hown; have HF5 := Lib.hid hgrow; clear hown hgrow))
  have hsz24 := HF4.out.size
  have HROW : Hid (RowX w5 w2.heap.size g (la + 1) c4 ((limbs (a * 2 ^ n) ++ [0, 0]).take (la + 1))) := Lib.hid (by
    refine RowX.keep (S := []) (w := w4) ⟨by rw [List.length_take, HP2.out]; have := HLU.out.1; omega, ?_⟩ HF5.out (by simp)
    have h := HO4.out
    rw [← HP2.out] at h
    exact h.prefix_ (by rw [HP2.out]; have := HLU.out.1; omega))
  have HSV : Hid (SlU w5 (.slice (some ⟨gv, 0, none⟩) lb cv) (limbs (b * 2 ^ n))) := Lib.hid ((HOV.out.sl.keep0 HF4.out).keep0 HF5.out)
  have HVB : Hid (val (limbs (b * 2 ^ n)) = b * 2 ^ n) := Lib.hid (val_limbs _)
  have HTOP : Hid ((limbs (b * 2 ^ n)).getD (lb - 1) 0 ≠ 0) := Lib.hid (by
    have := limbs_top (n := b * 2 ^ n) (Nat.ne_of_gt (Nat.mul_pos (Nat.pos_of_ne_zero HB0.out) (Nat.pow_pos (by omega))))
    rwa [HVL.out] at this)
  have HVP : Hid (0 < b * 2 ^ n) := Lib.hid (Nat.mul_pos (Nat.pos_of_ne_zero HB0.out) (Nat.pow_pos (by omega)))
  have HVlt : Hid (b * 2 ^ n < BW ^ lb) := Lib.hid (by have := limbs_lt (b * 2 ^ n); rwa [HVL.out] at this)
  have FW5 : Hid (Fr [] w w5) := Lib.hid ((F2.out.trans0 HF4.out).trans0 HF5.out)
  have hvu : val ((limbs (a * 2 ^ n) ++ [0, 0]).take (la + 1)) = a * 2 ^ n := by
    rw [val_pad HLU.out.2, val_limbs]
  have HVU := Lib.hid hvu
  clear hvu HO4 HOU HOV HC HSA HSB h1
  have hbnd := over_bnd HLA.out hn64 hlab HNORM.out
  have HBND := Lib.hid hbnd
  clear hbnd HNORM
  go_loopw [12] (fun iv wr => ∃ (m : Nat) (us zs : List Nat), m ≤ la - lb + 1 ∧ iv = .int .i64 ((m : Int) - 1) ∧ Hid (RowX wr w2.heap.size g (la + 1) c4 us) ∧ Hid (RowU wr w.heap.size w4.heap.size (la - lb + 1) zs) ∧
      Hid (Fr [g, w4.heap.size] w5 wr) ∧ Hid (val us < b * 2 ^ n * BW ^ m) ∧ Hid (a * 2 ^ n = val us + b * 2 ^ n * BW ^ m * val (zs.drop m))) (fun iv _ => (intOf iv + 1).toNat)
  case atStart => exact ⟨la - lb + 1, _, List.replicate (la - lb + 1) 0, by omega, val_int (by omega), HROW, Lib.hid ⟨by simp, HO5.out⟩, Lib.hid (Fr.refl _ _), by rw [HVU.out]; exact HBND, Lib.hid (by rw [HVU.out]; exact over_atEnd _ _ _)⟩
  case round =>
    obtain ⟨m, us, zs, hm, rfl, HRX, HRU, HFR, HLT, HEQ⟩ := hrel
    clear HROW HO5 HVU HBND
    by_cases hm0 : m = 0
    · subst hm0
      have HFR0 := HFR
      clear HFR HF4 HF5 F3 HP2 HSV hlb1
      have hend : val us = (a % b) * 2 ^ n ∧ val zs = a / b := by
        have h1 := HEQ.out
        have h2 := HLT.out
        rw [Nat.pow_zero, Nat.mul_one] at h1 h2
        have := long_end h1 h2
        exact ⟨this.2, this.1⟩
      have HEND := Lib.hid hend
      clear hend HLT HEQ
      go_wp2_with fail
      refine (trim_ow w2.heap.size _ us _ HRX.out.2 (by rw [HRX.out.1]; omega)).mono ?_
      rintro e w7 ⟨vr, rfl, ho7, _, rfl⟩
      have HO7 : Hid (OwU wr w2.heap.size vr (limbs (a % b * 2 ^ n))) := Lib.hid (by rw [trimL_of_val HRX.out.2.1 HEND.out.1] at ho7; exact ho7)
      clear ho7
      go_wp2_with fail
      refine (right_any _ (a % b * 2 ^ n) n _ HO7.out.sl (by have := over_rl (n := n) HLA.out HB0.out HLE.out hn64; omega) (by omega)).mono ?_
      rintro e w8 ⟨v8, rfl, ho8, hf8⟩
      have HO8 := Lib.hid ho8
      have HF8 := Lib.hid hf8
      clear ho8 hf8
      go_wp2_with fail
      refine (trim_ow w.heap.size _ zs _ (HRU.out.keep HF8.out (by simp)).2 (by rw [HRU.out.1]; omega)).mono ?_
      rintro e w9 ⟨v9, rfl, ho9, _, rfl⟩
      have HO9 : Hid (OwU w8 w.heap.size v9 (limbs (a / b))) := Lib.hid (by rw [trimL_of_val (HRU.out.2.1) HEND.out.2] at ho9; exact ho9)
      clear ho9
      go_wp2
      go_ret2
      refine ⟨v9, v8, rfl, HO9.out, ?_, ?_⟩
      · have h := HO8.out
        rw [Nat.mul_div_cancel _ (Nat.pow_pos (by omega))] at h
        exact h.base_le (Nat.le_trans F2.out.size (Nat.le_trans hsz24 (Nat.le_trans (Nat.le_of_lt hsz) HFR0.out.size)))
      · exact (FW5.out.trans HFR0.out (by intro x hx hlt; have := F2.out.size; simp at hx; omega)).trans0 HF8.out
    · obtain ⟨k, rfl⟩ : ∃ k, m = k + 1 := ⟨m - 1, by omega⟩
      have hki : ((k + 1 : Nat) : Int) - 1 = (k : Int) := by omega
      rw [hki]
      have hwin := over_window (us := us) (k := k) (lb := lb) (by rw [HRX.out.1]; omega) HVlt.out HLT.out HRX.out.2.1
      obtain ⟨P, ws, S, rfl, hP, hws, hS, hPl, hvus, hwlt⟩ := hwin
      have HPL := Lib.hid hP
      have HWSL := Lib.hid hws
      have HS := Lib.hid (And.intro hS hPl)
      have HWLT := Lib.hid hwlt
      have hA := HEQ.out
      rw [hvus] at hA
      have HA := Lib.hid hA
      clear hP hws hS hPl hvus hwlt hA HEQ HLT
      have HSVr : Hid (SlU wr (.slice (some ⟨gv, 0, none⟩) lb cv) (limbs (b * 2 ^ n))) := Lib.hid (HSV.out.keepB HFR.out (by intro x hx; simp [Value.ownBlock] at hx; subst hx; simp; omega))
      go_wp2_with (go_at_call 74; rw [show k + lb + 1 - k = lb + 1 by omega]; refine (digit_any w2.heap.size g (la + 1) c4 k lb (c4 - k) P ws S (limbs (b * 2 ^ n)) _ wr (by omega) (by omega) (by omega) HPL.out HWSL.out HVL.out HRX.out HSVr.out (by intro x hx; simp [Value.ownBlock] at hx; subst hx; omega) (by rw [HVB.out]; exact HWLT.out) HTOP.out).mono ?_; rintro e w7 ⟨he, hqb, ⟨ws', hws', hr7, hm7⟩, hf7⟩; obtain ⟨q, hq⟩ : ∃ q, q = val ws / val (limbs (b * 2 ^ n)) := ⟨_, rfl⟩; rw [← hq] at he hqb; rw [HVB.out] at hm7 hq; subst he; have HQ := Lib.hid hq; have HQB := Lib.hid hqb; have HWS7 := Lib.hid hws'; have HR7 := Lib.hid hr7; have HM7 := Lib.hid hm7; have HF7 := Lib.hid hf7; have HRU7 := Lib.hid (HRU.out.keep hf7 (by simp; omega)); have hf := HRU7.out.frozen (by omega) k; have hcell := HRU7.out.cell (k := k) (by omega); clear hq hqb hws' hr7 hm7 hf7)
      go_roundw
      case rel =>
        have hrr := over_round (zs := zs) HPL.out HWS7.out HS.out.1 HS.out.2 (by rw [HRU.out.1]; omega) HVP.out HA.out HM7.out
        rw [← HQ.out] at hrr
        refine ⟨k, P ++ ws' ++ S, zs.set k q, by omega, by go_num, Lib.hid (HR7.out.keep (S := [w4.heap.size]) ((Fr.refl _ _).setCell (by simp) _) (by simp; omega)), Lib.hid (HRU7.out.store k q HQB.out), Lib.hid ?_, Lib.hid hrr.1, Lib.hid hrr.2⟩
        exact (HFR.out.trans HF7.out (by intro x hx _; simp at hx; simp [hx])).setCell (by simp) _
      case measure => simp [intOf]

theorem over_any (va vb : Value) (a b : Nat) (w : World) (ha : SlU w va (limbs a)) (hb : SlU w vb (limbs b)) (hla : (limbs a).length ≤ 100000000) (hlb : (limbs b).length ≤ 100000000) (hb0 : b ≠ 0) :
    Calls Tryd.prog 50 #[va, vb] w (OverPost a b w) := by
  by_cases h1 : a < b
  · exact over_lt va vb a b w ha hb (by omega) (by omega) h1
  · by_cases h2 : b < BW
    · exact over_one va vb a b w ha hb (by omega) (by omega) h2 (by omega)
    · refine over_long va vb a b w ha hb hla ?_ (by omega)
      apply Nat.le_of_not_lt; intro h3
      apply h2
      have := (limbs_length_le (n := b) (k := 1)).1 (by omega)
      rwa [Nat.pow_one] at this
end Go.Proofs.YtedoeadhbcjjgaaDoor
