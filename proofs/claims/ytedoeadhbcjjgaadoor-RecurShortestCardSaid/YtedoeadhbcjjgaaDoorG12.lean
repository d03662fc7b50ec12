/- Joined by program (merge.py) out of 4 texts, a part of the proof: contracts of the functions that the statement reaches, and plain mathematics. No statement of the seat stands here. -/
import Derived.Test.YtedoeadhbcjjgaaDoorG11
import Derived.Shelf.Spec.TrailingZeros
/- big.Int: Cmp, Bit. -/
namespace Go.Proofs.YtedoeadhbcjjgaaDoor
open Go.RowKit

def cmpZ (x y : Int) : Int := if x < y then -1 else if y < x then 1 else 0
def CmpZPost (x y : Int) (w : World) (e : Ending) (w' : World) : Prop := e = .returned (.int .i64 (cmpZ x y)) ∧ ∃ n, w' = w.drewN n

set_option maxRecDepth 100000 in
set_option maxHeartbeats 4000000 in
theorem cmp_any (gx gy : Nat) (x y : Int) (w : World) (hx : BigAt w gx x) (hy : BigAt w gy y) (hl : (limbs x.natAbs).length ≤ 100000000) (hl2 : (limbs y.natAbs).length ≤ 100000000) :
    Calls Tryd.prog 30 #[.pointer (some ⟨gx, 0, none⟩), .pointer (some ⟨gy, 0, none⟩)] w (CmpZPost x y w) := by
  obtain ⟨A, n, c, hc0, hc1, _, _, hs⟩ := hx.cells
  obtain ⟨B, m, d, hd0, hd1, _, _, ht⟩ := hy.cells
  have HCM : Hid (∀ W : World, Fr [] w W → Calls Tryd.prog 53 #[.slice A n c, .slice B m d] W fun e w' => e = .returned (.int .i64 (cmpI x.natAbs y.natAbs)) ∧ ∃ n, w' = W.drewN n) := Lib.hid (fun W f => compare_any _ _ _ _ W (hs.keep0 f) (ht.keep0 f) (by omega) (by omega))
  have HCN : Hid (∀ W : World, Fr [] w W → Calls Tryd.prog 53 #[.slice B m d, .slice A n c] W fun e w' => e = .returned (.int .i64 (cmpI y.natAbs x.natAbs)) ∧ ∃ n, w' = W.drewN n) := Lib.hid (fun W f => compare_any _ _ _ _ W (ht.keep0 f) (hs.keep0 f) (by omega) (by omega))
  have F0 : Hid (Fr [] w w) := Lib.hid (Fr.refl [] w)
  obtain ⟨s, hsd⟩ : ∃ s, s = decide (x < 0) := ⟨_, rfl⟩
  obtain ⟨t, htd⟩ : ∃ t, t = decide (y < 0) := ⟨_, rfl⟩
  rw [← hsd] at hc0
  rw [← htd] at hd0
  clear hs ht hx hy hl hl2
  cases s <;> cases t
  · have hr : cmpZ x y = cmpI x.natAbs y.natAbs := by
      simp at hsd htd
      unfold cmpZ cmpI
      repeat' split <;> omega
    have HR := Lib.hid hr
    clear hsd htd hr HCN
    go_enter Tryd.func30, Tryd.ntmps30
    go_wp2_with fail
    go_quiet (fail)
    go_wp2_with fail
    go_quiet (fail)
    go_wp2_with fail
    generalize hwq : w.drewN _ = wq
    rw [show w.cell? = wq.cell? by rw [← hwq]; rfl] at hc0 hc1 hd0 hd1
    have F1 : Hid (Fr [] w wq) := Lib.hid (by rw [← hwq]; exact (Fr.refl [] w).drewN _)
    have HWQ := Lib.hid hwq
    clear hwq
    go_quiet ((go_at_call 53; exact Calls.quiet_of (HCM.out _ (F1.out.drewN _))))
    go_wp2
    go_ret
    exact ⟨by rw [HR.out]; rfl, _, by rw [← HWQ.out]; simp only [World.drewN_drewN]; rfl⟩
  · have hr : cmpZ x y = 1 := by
      simp at hsd htd
      unfold cmpZ
      rw [if_neg (by omega), if_pos (by omega)]
    have HR := Lib.hid hr
    clear hsd htd hr HCN HCM
    go_enter Tryd.func30, Tryd.ntmps30
    go_wp2_with fail
    go_quiet (fail)
    go_wp2_with fail
    go_quiet (fail)
    go_wp2
    go_ret
    exact ⟨by rw [HR.out]; rfl, _, by simp only [World.drewN_drewN]; rfl⟩
  · have hr : cmpZ x y = -1 := by
      simp at hsd htd
      unfold cmpZ
      rw [if_pos (by omega)]
    have HR := Lib.hid hr
    clear hsd htd hr HCN HCM
    go_enter Tryd.func30, Tryd.ntmps30
    go_wp2_with fail
    go_quiet (fail)
    go_wp2
    go_ret
    exact ⟨by rw [HR.out]; rfl, _, rfl⟩
  · have hr : cmpZ x y = cmpI y.natAbs x.natAbs := by
      simp at hsd htd
      unfold cmpZ cmpI
      repeat' split <;> omega
    have HR := Lib.hid hr
    clear hsd htd hr HCM
    go_enter Tryd.func30, Tryd.ntmps30
    go_wp2_with fail
    go_quiet (fail)
    go_wp2_with fail
    go_quiet (fail)
    go_wp2_with fail
    generalize hwq : w.drewN _ = wq
    rw [show w.cell? = wq.cell? by rw [← hwq]; rfl] at hc0 hc1 hd0 hd1
    have F1 : Hid (Fr [] w wq) := Lib.hid (by rw [← hwq]; exact (Fr.refl [] w).drewN _)
    have HWQ := Lib.hid hwq
    clear hwq
    go_quiet ((go_at_call 53; exact Calls.quiet_of (HCN.out _ (F1.out.drewN _))))
    go_wp2
    go_ret
    exact ⟨by rw [HR.out]; rfl, _, by rw [← HWQ.out]; simp only [World.drewN_drewN]; rfl⟩

/-- A bit. -/
def bitOf (a i : Nat) : Nat := a / 2 ^ i % 2
theorem bit_limb (a i : Nat) : bitOf a i = (limbs a).getD (i / 64) 0 / 2 ^ (i % 64) % 2 := by
  unfold bitOf
  rw [pow_split]
  obtain ⟨k, hk⟩ : ∃ k, k = i / 64 := ⟨_, rfl⟩
  obtain ⟨r, hr⟩ : ∃ r, r = i % 64 := ⟨_, rfl⟩
  have hr64 : r < 64 := by omega
  rw [← hk, ← hr]
  have hA : val ((limbs a).take k) < BW ^ k := by
    have h1 := val_lt ((Bd_limbs a).take k)
    rw [List.length_take] at h1
    exact Nat.lt_of_lt_of_le h1 (Nat.pow_le_pow_right BW_pos (Nat.min_le_left _ _))
  rcases Nat.lt_or_ge k (limbs a).length with hl | hl
  · have hv : a = val ((limbs a).take k) + BW ^ k * val ((limbs a).drop k) := by
      conv => lhs; rw [← val_limbs a, ← List.take_append_drop k (limbs a)]
      rw [val_append, List.length_take, Nat.min_eq_left (by omega)]
    rw [val_drop hl] at hv
    generalize (limbs a).getD k 0 = y at *
    generalize val ((limbs a).drop (k + 1)) = R at *
    generalize val ((limbs a).take k) = A at *
    rw [hv, cut_div hA]
    have hst : (2 : Nat) ^ r * 2 ^ (64 - r) = BW := by rw [← Nat.pow_add, BW_pow]; congr 1; omega
    rw [right_digit hst]
    have h2 : (2 : Nat) ^ (64 - r) = 2 * 2 ^ (64 - r - 1) := by rw [← Nat.pow_succ']; congr 1; omega
    have h3 : BW = 2 * 9223372036854775808 := by rw [BW_eq]
    rw [h2, h3, show R % 2 ^ r * (2 * 2 ^ (64 - r - 1)) = 2 * (R % 2 ^ r * 2 ^ (64 - r - 1)) by ac_rfl, Nat.mul_assoc 2]
    omega
  · have h0 : (limbs a).getD k 0 = 0 := by simp [List.getD, List.getElem?_eq_none (l := limbs a) (i := k) hl]
    have h1 : a < BW ^ k * 2 ^ r := by
      have h2 := limbs_length_le.1 hl
      exact Nat.lt_of_lt_of_le h2 (Nat.le_mul_of_pos_right _ (Nat.pow_pos (by omega)))
    rw [h0, Nat.div_eq_of_lt h1, Nat.zero_div]
set_option maxRecDepth 100000 in
set_option maxHeartbeats 4000000 in
theorem bit_any (gx : Nat) (x : Int) (i : Nat) (w : World) (hx : BigAt w gx x) (hl : (limbs x.natAbs).length ≤ 100000000) (hi : i ≤ 100000000000) :
    Calls Tryd.prog 41 #[.pointer (some ⟨gx, 0, none⟩), .int .i64 (i : Int)] w fun e w' => e = .returned (.int .u64 (bitOf x.natAbs i : Int)) ∧ w = w' := by
  obtain ⟨A, n, c, hc0, hc1, _, _, hs⟩ := hx.cells
  have hn : n = (limbs x.natAbs).length := hs.len.symm
  rw [bit_limb]
  by_cases h0 : n ≤ i / 64
  · have e0 : (limbs x.natAbs).getD (i / 64) 0 = 0 := by simp [List.getD]; rw [List.getElem?_eq_none (by omega)]; rfl
    rw [e0]
    clear hs hx hn e0
    go_enter Tryd.func41, Tryd.ntmps41
    go_wp2
    go_ret
    exact ⟨by rw [Nat.zero_div]; rfl, rfl⟩
  · obtain ⟨b, o, rfl, h1⟩ := hs.get (k := i / 64) (by omega)
    have hbd := (Bd_limbs x.natAbs).getD (i / 64)
    generalize (limbs x.natAbs).getD (i / 64) 0 = l at *
    clear hs hx
    go_enter Tryd.func41, Tryd.ntmps41
    go_wp2
    go_ret
    refine ⟨?_, rfl⟩
    show Ending.returned (.int .u64 (bits BinOp.and IntKind.u64 ((l : Int) / 2 ^ (i % 64)) 1)) = _
    congr 2
    have e : ((l : Int) / 2 ^ (i % 64)) = ((l / 2 ^ (i % 64) : Nat) : Int) := by simp
    rw [e]
    have hlt : l / 2 ^ (i % 64) < BW := Nat.lt_of_le_of_lt (Nat.div_le_self _ _) hbd
    generalize l / 2 ^ (i % 64) = q at *
    have h5 := bits_and_u64_nat q 1 (by rw [← BW_eq]; exact hlt) (by omega)
    rw [show ((1 : Nat) : Int) = 1 from rfl] at h5
    rw [h5, Nat.and_one_is_mod]
end Go.Proofs.YtedoeadhbcjjgaaDoor

/- big.Int: Exp by a modulus. -/
namespace Go.Proofs.YtedoeadhbcjjgaaDoor
open Go.RowKit

/-- What Exp's loop reckons. -/
def expGo (base m y : Nat) : Nat → Nat → Nat
  | 0, out => out
  | i + 1, out => expGo base m y i ((if bitOf y i = 1 then out * out * base else out * out) % m)
def expN (x y m : Nat) : Nat := expGo (x % m) m y (bitsOf y) (1 % m)

theorem len_lt_mod {a m : Nat} (hm : 0 < m) : (limbs (a % m)).length ≤ (limbs m).length := limbs_length_mono (Nat.le_of_lt (Nat.mod_lt _ hm))

set_option maxRecDepth 100000 in
set_option maxHeartbeats 8000000 in
theorem exp_any (g gx gy gm : Nat) (x y m : Nat) (w : World) (hg : IntBlk w g) (hx : BigAt w gx (x : Int)) (hy : BigAt w gy (y : Int)) (hm : BigAt w gm (m : Int)) (hl : (limbs x).length ≤ 1000000) (hl2 : (limbs y).length ≤ 1000000) (hl3 : (limbs m).length ≤ 1000000) (hm0 : 0 < m) :
    Calls Tryd.prog 68 #[.pointer (some ⟨g, 0, none⟩), .pointer (some ⟨gx, 0, none⟩), .pointer (some ⟨gy, 0, none⟩), .pointer (some ⟨gm, 0, none⟩)] w (BigPost g ((expN x y m : Nat) : Int) w) := by
  have HG := Lib.hid hg
  have HX := Lib.hid hx
  have HY := Lib.hid hy
  have HM := Lib.hid hm
  have HL := Lib.hid (And.intro hl (And.intro hl2 hl3))
  have HM0 := Lib.hid hm0
  have hglt := hg.lt
  have hxlt := hx.lt
  have hylt := hy.lt
  have hmlt := hm.lt
  clear hg hx hy hm hl hl2 hl3 hm0
  go_enter Tryd.func68, Tryd.ntmps68
  go_wp2_with fail
  refine (newInt_any 1 _ (by unfold Ri; omega)).mono ?_
  rintro e w1 ⟨go, rfl, hgo, hb1, hf1⟩
  have HB1 := Lib.hid hb1
  have F1 := Lib.hid hf1
  have hsz1 := hf1.size
  have hgo1 := hb1.lt
  clear hb1 hf1
  go_wp2_with fail
  have FA : Hid (Fr [] w1 (w1.alloc (.cells #[.bool false, .slice none 0 0] 38))) := Lib.hid ((Fr.refl [] w1).alloc _)
  refine (set_any w1.heap.size gx x _ (BigAt_new w1).blk (HX.out.keep0 (F1.out.trans0 FA.out)) (by have := HL.out; simp; omega)).mono ?_
  rintro e w2 ⟨rfl, hb, hf⟩
  have HB2 := Lib.hid hb
  have F12 : Hid (Fr [] w1 w2) := Lib.hid (FA.out.own1 hf (Nat.le_refl _))
  have F2 : Hid (Fr [] w w2) := Lib.hid (F1.out.trans0 F12.out)
  have HO2 := Lib.hid (HB1.out.keep0 F12.out)
  have hsz2 := F12.out.size
  have hgb2 := hb.lt
  have HM2 := HM.out.keep0 F2.out
  obtain ⟨A, n, c, hm0, hm1, _, _, hms⟩ := HM2.cells
  have hnm : n = (limbs m).length := by have := hms.len; simpa using this.symm
  have hn0 : 0 < n := by rw [hnm]; exact List.length_pos_iff.2 (limbs_ne (by have := HM0.out; omega))
  clear hb hf hms hm0 HB1 FA F12 HM2 hnm
  go_wp2_with fail
  have e1m : ((1 : Int) % (m : Int)) = ((1 % m : Nat) : Int) := by simp
  refine (mod_any go go gm 1 m _ HO2.out.blk HO2.out (HM.out.keep0 F2.out) (by rw [show (1 : Int).natAbs = 1 from rfl, limbs_small (by omega) (by rw [BW_eq]; omega)]; simp) (by have := HL.out; simp; omega) (by have := HM0.out; omega)).mono ?_
  rw [e1m]
  rintro e w3 ⟨rfl, hb, hf⟩
  have HO3 := Lib.hid hb
  have F3 : Hid (Fr [] w w3) := Lib.hid (F2.out.own1 hf hgo)
  have HB3 := Lib.hid (HB2.out.keep1 hf HO2.out (by omega))
  have hsz3 := hf.size
  clear hb hf HB2 HO2 hm1
  go_wp2_with fail
  refine (mod_any w1.heap.size w1.heap.size gm x m _ HB3.out.blk HB3.out (HM.out.keep0 F3.out) (by have := HL.out; simp; omega) (by have := HL.out; simp; omega) (by have := HM0.out; omega)).mono ?_
  rw [show ((x : Int) % (m : Int)) = ((x % m : Nat) : Int) by simp]
  rintro e w4 ⟨rfl, hb, hf⟩
  have HB4 := Lib.hid hb
  have F4 : Hid (Fr [] w w4) := Lib.hid (F3.out.own1 hf (by omega))
  have HO4 := Lib.hid (HO3.out.keep1 hf HB3.out (by omega))
  have hsz4 := hf.size
  have HY4 := Lib.hid (HY.out.keep0 F4.out)
  have HM4 := Lib.hid (HM.out.keep0 F4.out)
  clear hb hf HB3 HO3
  obtain ⟨L, hL⟩ : ∃ L, L = bitsOf y := ⟨_, rfl⟩
  have hLb : L ≤ 64000000 := by rw [hL]; unfold bitsOf; have := HL.out; omega
  have HLL := Lib.hid hL
  obtain ⟨bs, hbs⟩ : ∃ bs, bs = x % m := ⟨_, rfl⟩
  rw [← hbs] at HB4
  have HBS : Hid (bs < m) := Lib.hid (by rw [hbs]; exact Nat.mod_lt _ HM0.out)
  have HEX : Hid (expGo bs m y L (1 % m) = expN x y m) := Lib.hid (by unfold expN; rw [hbs, hL])
  clear hL hbs
  go_wp2_with (go_at_call 36; refine (bitLen_any gy y _ HY4.out (by have := HL.out; simp; omega)).mono ?_; rintro e w' ⟨he, rfl⟩; rw [show (y : Int).natAbs = y from rfl, ← HLL.out] at he; subst he)
  go_loopw [12] (fun iv wr => ∃ (k o : Nat), k ≤ L ∧ iv = .int .i64 ((k : Int) - 1) ∧ Hid (BigAt wr go (o : Int)) ∧ Hid (o < m) ∧ Hid (Fr [go] w4 wr) ∧ Hid (expGo bs m y k o = expN x y m)) (fun iv _ => (intOf iv + 1).toNat)
  case atStart => exact ⟨L, 1 % m, Nat.le_refl _, rfl, HO4, Lib.hid (Nat.mod_lt _ HM0.out), Lib.hid (Fr.refl _ _), HEX⟩
  case round =>
    obtain ⟨k, o, hk, rfl, HO, HOM, HFR, HE⟩ := hrel
    have hszr := HFR.out.size
    by_cases hk0 : k = 0
    · subst hk0
      have hfin : o = expN x y m := HE.out
      have HFIN := Lib.hid hfin
      have FW : Hid (Fr [] w wr) := Lib.hid (F4.out.own1 HFR.out hgo)
      clear hfin HE
      go_wp2_with fail
      refine (set_any g go o _ (HG.out.keep FW.out (by simp)) HO.out (by have := limbs_length_mono (Nat.le_of_lt HOM.out); have := HL.out; simp; omega)).mono ?_
      rintro e w7 ⟨rfl, hb, hf⟩
      have HB7 := Lib.hid hb
      have F7 := Lib.hid (FW.out.then_ hf)
      clear hb hf
      go_wp2
      go_ret
      exact ⟨rfl, by rw [← HFIN.out]; exact HB7.out, F7.out⟩
    · obtain ⟨j, rfl⟩ : ∃ j, k = j + 1 := ⟨k - 1, by omega⟩
      have hki : ((j + 1 : Nat) : Int) - 1 = (j : Int) := by omega
      rw [hki]
      have HSO : Hid ((limbs o).length ≤ 1000000) := Lib.hid (by have := limbs_length_mono (Nat.le_of_lt HOM.out); have := HL.out; omega)
      have HSB : Hid ((limbs bs).length ≤ 1000000) := Lib.hid (by have := limbs_length_mono (Nat.le_of_lt HBS.out); have := HL.out; omega)
      have HBr := Lib.hid (HB4.out.keep1 HFR.out HO4.out (by omega))
      have HYr := Lib.hid (HY4.out.keep1 HFR.out HO4.out (by omega))
      have HMr := Lib.hid (HM4.out.keep1 HFR.out HO4.out (by omega))
      go_wp2_with fail
      refine (mul_any go go go o o _ HO.out.blk HO.out HO.out (by have := HSO.out; simp; omega) (by have := HSO.out; simp; omega)).mono ?_
      rw [← Int.natCast_mul]
      rintro e w5 ⟨rfl, hb, hf⟩
      have HO5 := Lib.hid hb
      have F5 := Lib.hid hf
      have HS5 : Hid ((limbs (o * o)).length ≤ 2000000) := Lib.hid (by have := limbs_mul_len o o; have := HSO.out; omega)
      have HB5 := Lib.hid (HBr.out.keep1 hf HO.out (by omega))
      have HY5 := Lib.hid (HYr.out.keep1 hf HO.out (by omega))
      have HM5 := Lib.hid (HMr.out.keep1 hf HO.out (by omega))
      clear hb hf
      have hbit := bit_any gy y j _ HY5.out (by have := HL.out; simp; omega) (by omega)
      rw [show (y : Int).natAbs = y from rfl] at hbit
      by_cases hb1 : bitOf y j = 1
      · rw [hb1] at hbit
        have HBIT := Lib.hid hbit
        have HE1 : Hid (expGo bs m y j (o * o * bs % m) = expN x y m) := Lib.hid (by have := HE.out; unfold expGo at this; rw [if_pos hb1] at this; exact this)
        clear hbit hb1 HE
        go_wp2_with (go_at_call 41; refine HBIT.out.mono ?_; rintro e w' ⟨rfl, rfl⟩)
        refine (mul_any go go w1.heap.size (o * o : Nat) bs _ HO5.out.blk HO5.out HB5.out (by rw [Int.natAbs_natCast]; have := HS5.out; omega) (by have := HSB.out; simp; omega)).mono ?_
        rw [← Int.natCast_mul]
        rintro e w6 ⟨rfl, hb, hf⟩
        have HO6 := Lib.hid hb
        have F6 := Lib.hid hf
        have HM6 := Lib.hid (HM5.out.keep1 hf HO5.out (by omega))
        clear hb hf
        go_wp2_with fail
        refine (mod_any go go gm (o * o * bs : Nat) m _ HO6.out.blk HO6.out HM6.out (by rw [Int.natAbs_natCast]; have := limbs_mul_len (o * o) bs; have := HS5.out; have := HSB.out; omega) (by have := HL.out; simp; omega) (by have := HM0.out; omega)).mono ?_
        rw [← Int.natCast_emod]
        rintro e w7 ⟨rfl, hb, hf⟩
        have HO7 := Lib.hid hb
        have F7 : Hid (Fr [go] w4 w7) := Lib.hid (((HFR.out.trans F5.out (by simp)).trans F6.out (by simp)).trans hf (by simp))
        clear hb hf
        go_wp2_with fail
        go_roundw
        case rel => exact ⟨j, _, by omega, by go_num, HO7, Lib.hid (Nat.mod_lt _ HM0.out), F7, HE1⟩
        case measure => simp [intOf]
      · have hb0 : bitOf y j = 0 := by have : bitOf y j < 2 := Nat.mod_lt _ (by omega); omega
        rw [hb0] at hbit
        have HBIT := Lib.hid hbit
        have HE1 : Hid (expGo bs m y j (o * o % m) = expN x y m) := Lib.hid (by have := HE.out; unfold expGo at this; rw [if_neg hb1] at this; exact this)
        clear hbit hb1 hb0 HE
        go_wp2_with (go_at_call 41; refine HBIT.out.mono ?_; rintro e w' ⟨rfl, rfl⟩)
        refine (mod_any go go gm (o * o : Nat) m _ HO5.out.blk HO5.out HM5.out (by rw [Int.natAbs_natCast]; have := HS5.out; omega) (by have := HL.out; simp; omega) (by have := HM0.out; omega)).mono ?_
        rw [← Int.natCast_emod]
        rintro e w7 ⟨rfl, hb, hf⟩
        have HO7 := Lib.hid hb
        have F7 : Hid (Fr [go] w4 w7) := Lib.hid ((HFR.out.trans F5.out (by simp)).trans hf (by simp))
        clear hb hf
        go_wp2_with fail
        go_roundw
        case rel => exact ⟨j, _, by omega, by go_num, HO7, Lib.hid (Nat.mod_lt _ HM0.out), F7, HE1⟩
        case measure => simp [intOf]
end Go.Proofs.YtedoeadhbcjjgaaDoor

/- big.Int: TrailingZeroBits (of one limb), Rsh (of what is not below 0). -/
namespace Go.Proofs.YtedoeadhbcjjgaaDoor
open Go.RowKit

def HasTab (w : World) : Prop := 0 < w.heap.size ∧ ¬ IntBlk w 0 ∧ TabAt 0 Lib.deBruijn64tab w

set_option maxHeartbeats 1000000 in
theorem tz64_core (x k idx : Nat) (w : World) (hx0 : ((x : Int) == 0) = false)
    (key : IntKind.u64.wrap (bits BinOp.and IntKind.u64 (x : Int) (IntKind.u64.wrap (-(x : Int))) * 285870213051353865) / 288230376151711744 = (idx : Int))
    (hi : idx < 64) (hk : k < 64) (hcell : w.cell? ⟨0, idx, none⟩ = some (.int .u8 k)) :
    Calls Tryd.prog 87 #[.int .u64 x] w fun e w' => e = .returned (.int .i64 k) ∧ w = w' := by
  go_enter Tryd.func87, Tryd.ntmps87
  go_wp2_with (simp only [key])
  go_ret
  exact ⟨rfl, rfl⟩
theorem tz64_any (x : Nat) (w : World) (hx : x < BW) (hx0 : x ≠ 0) (hT : HasTab w) :
    Calls Tryd.prog 87 #[.int .u64 x] w fun e w' => e = .returned (.int .i64 (Lib.ctz 64 x)) ∧ w = w' := by
  rw [BW_eq] at hx
  obtain ⟨hlow, hk⟩ := Lib.lowest_bit 64 x hx0 hx
  obtain ⟨hi, htab⟩ := Lib.deBruijn64_at _ hk
  have hcell := hT.2.2 _ hi
  rw [htab] at hcell
  exact tz64_core x _ _ w (by simp; omega) (tz64_key x _ hx hx0 hlow) hi hk hcell

set_option maxRecDepth 100000 in
set_option maxHeartbeats 4000000 in
theorem trail_any (gx : Nat) (x : Nat) (w : World) (hx : BigAt w gx (x : Int)) (h0 : x ≠ 0) (hb : x < BW) (hT : HasTab w) :
    Calls Tryd.prog 67 #[.pointer (some ⟨gx, 0, none⟩)] w fun e w' => e = .returned (.int .u64 (Lib.ctz 64 x)) ∧ w = w' := by
  obtain ⟨A, n, c, hc0, hc1, _, _, hs⟩ := hx.cells
  rw [Int.natAbs_natCast, limbs_small h0 hb] at hs
  obtain ⟨b, o, rfl, h1⟩ := hs.get (k := 0) (by have := hs.len; simp at this; omega)
  have hn : n = 1 := by have := hs.len; simpa using this.symm
  subst hn
  rw [Nat.add_zero, show [x].getD 0 0 = x from rfl] at h1
  have HTZ := Lib.hid (tz64_any x w hb h0 hT)
  obtain ⟨hlow, hk⟩ := Lib.lowest_bit 64 x h0 (by have h := hb; rw [BW_eq] at h; exact h)
  have e1 : ((x : Int) == 0) = false := by simpa using h0
  generalize Lib.ctz 64 x = tz at *
  clear hs hx h0 hb hT hlow
  go_enter Tryd.func67, Tryd.ntmps67
  go_wp2_with fail
  go_loopw [10] (fun iv wr => iv = .int .i64 0 ∧ w = wr) (fun _ _ => 0)
  case atStart => exact ⟨rfl, rfl⟩
  case round =>
    obtain ⟨rfl, rfl⟩ := hrel
    go_wp2_with (go_at_call 87; refine HTZ.out.mono ?_; rintro e w' ⟨rfl, rfl⟩)
    go_ret
    exact ⟨rfl, rfl⟩

set_option maxRecDepth 100000 in
set_option maxHeartbeats 4000000 in
theorem rsh_any (g gx : Nat) (x n : Nat) (w : World) (hg : IntBlk w g) (hx : BigAt w gx (x : Int)) (hl : (limbs x).length ≤ 10000000) (hn : n ≤ 1000000000) :
    Calls Tryd.prog 69 #[.pointer (some ⟨g, 0, none⟩), .pointer (some ⟨gx, 0, none⟩), .int .u64 (n : Int)] w (BigPost g ((x / 2 ^ n : Nat) : Int) w) := by
  obtain ⟨A, m, c, hc0, hc1, _, _, hs⟩ := hx.cells
  rw [Int.natAbs_natCast] at hs
  have hd : decide ((x : Int) < 0) = false := by simp
  rw [hd] at hc0
  have HS := Lib.hid hs
  have HG := Lib.hid hg
  have HL := Lib.hid hl
  have hlq := Nat.le_trans (limbs_length_mono (Nat.div_le_self x (2 ^ n))) hl
  obtain ⟨q, hq⟩ : ∃ q, q = x / 2 ^ n := ⟨_, rfl⟩
  have HR := Lib.hid ((right_any _ x n w hs (by omega) (by omega)).mono (R' := fun e w' => ∃ v' b, e = .returned (.tuple #[v', .bool b]) ∧ OwU w' w.heap.size v' (limbs q) ∧ Fr [] w w') (by rintro e w' ⟨v', rfl, ho, hf⟩; rw [← hq] at ho; exact ⟨v', _, rfl, ho, hf⟩))
  rw [← hq] at hlq ⊢
  have HLQ := Lib.hid hlq
  clear hs hg hx hl hd hq hlq
  go_enter Tryd.func69, Tryd.ntmps69
  go_wp2_with (first
    | (go_at_call 75; refine HR.out.mono ?_; rintro e w2 ⟨v2, lost, rfl, ho, hf⟩; have HO := Lib.hid ho.sl; have F2 := Lib.hid hf; clear ho hf)
    | (go_at_call 48; refine (put_limbs g false _ q (q : Int) _ (HG.out.keep F2.out (by simp)) HO.out (by have := HLQ.out; omega) (by omega) (by simp)).mono ?_; rintro e w3 ⟨rfl, hb, hf⟩; have HB := Lib.hid hb; have F3 := Lib.hid (F2.out.then_ hf); clear hb hf))
  go_ret
  exact ⟨rfl, HB.out, F3.out⟩
end Go.Proofs.YtedoeadhbcjjgaaDoor

/- big.passes. -/
namespace Go.Proofs.YtedoeadhbcjjgaaDoor
open Go.RowKit

theorem HasTab.keep0 {w w' : World} (h : HasTab w) (f : Fr [] w w') : HasTab w' := by
  obtain ⟨h1, h2, h3⟩ := h
  have hb := f.block 0 h1 (by simp)
  refine ⟨Nat.lt_of_lt_of_le h1 f.size, ?_, ?_⟩
  · rintro ⟨n, A, l, c, h⟩; exact h2 ⟨n, A, l, c, by rw [← hb]; exact h⟩
  · intro j hj; rw [f.cell (p := ⟨0, j, none⟩) h1 (by simp)]; exact h3 j hj

/-- What the loop of 'passes' reckons. -/
def passGo (n : Nat) : Nat → Nat → Bool
  | 0, _ => false
  | k + 1, x => if x = 1 ∨ x = n - 1 then true else if x * x % n = 1 then false else passGo n k (x * x % n)
def passN (n a : Nat) : Bool := passGo n (Lib.ctz 64 (n - 1)) (expN a ((n - 1) / 2 ^ Lib.ctz 64 (n - 1)) n)

theorem expGo_lt {b m y : Nat} (hm : 0 < m) : ∀ (i o : Nat), o < m → expGo b m y i o < m
  | 0, o, h => h
  | i + 1, o, h => expGo_lt hm i _ (Nat.mod_lt _ hm)
theorem expN_lt {x y m : Nat} (hm : 0 < m) : expN x y m < m := expGo_lt hm _ _ (Nat.mod_lt _ hm)
theorem cmpZ_ne {x y : Int} (h : x ≠ y) : (cmpZ x y == 0) = false := by unfold cmpZ; split; rfl; split; rfl; omega
theorem cmpZ_self (x : Int) : cmpZ x x = 0 := by unfold cmpZ; simp
theorem len1 {n : Nat} (h : n < BW) : (limbs n).length ≤ 1 := by rw [limbs_length_le, Nat.pow_one]; exact h

/-- 'Cmp' against zero, told in one Bool. -/
theorem cmp_is (gx gy : Nat) (x y : Nat) (b : Bool) (w : World) (hx : BigAt w gx (x : Int)) (hy : BigAt w gy (y : Int)) (hl : x < BW) (hl2 : y < BW) (hb : b = decide (x = y)) :
    Calls Tryd.prog 30 #[.pointer (some ⟨gx, 0, none⟩), .pointer (some ⟨gy, 0, none⟩)] w fun e w' => ∃ (c : Int) (n : Nat), e = .returned (.int .i64 c) ∧ (c == 0) = b ∧ w' = w.drewN n := by
  refine (cmp_any gx gy x y w hx hy (by rw [Int.natAbs_natCast]; have := len1 hl; omega) (by rw [Int.natAbs_natCast]; have := len1 hl2; omega)).mono ?_
  rintro e w' ⟨rfl, n, rfl⟩
  refine ⟨_, n, rfl, ?_, rfl⟩
  by_cases h : x = y
  · subst h; rw [cmpZ_self, hb]; simp
  · rw [cmpZ_ne (by omega), hb]; simp [h]

set_option maxRecDepth 100000 in
set_option maxHeartbeats 8000000 in
theorem passes_any (gn ga : Nat) (n a : Nat) (w : World) (hn : BigAt w gn (n : Int)) (ha : BigAt w ga (a : Int)) (hn2 : 2 < n) (hnb : n < 4294967296) (hab : a < BW) (hT : HasTab w) :
    Calls Tryd.prog 46 #[.pointer (some ⟨gn, 0, none⟩), .pointer (some ⟨ga, 0, none⟩)] w fun e w' => e = .returned (.bool (passN n a)) ∧ Fr [] w w' := by
  have HN := Lib.hid hn
  have HA := Lib.hid ha
  have HT := Lib.hid hT
  have hB : (4294967296 : Nat) ≤ BW := by rw [BW_eq]; omega
  have HNB : Hid (n < BW ∧ n - 1 < BW ∧ a < BW ∧ n < 4294967296) := Lib.hid ⟨by omega, by omega, hab, hnb⟩
  have hnlt := hn.lt
  have halt := ha.lt
  have HL1 : Hid ((limbs n).length ≤ 1 ∧ (limbs (n - 1)).length ≤ 1 ∧ (limbs a).length ≤ 1) := Lib.hid ⟨len1 (by omega), len1 (by omega), len1 hab⟩
  have HONE : Hid ((limbs 1).length ≤ 1) := Lib.hid (len1 (by omega))
  obtain ⟨s, hs⟩ : ∃ s, s = Lib.ctz 64 (n - 1) := ⟨_, rfl⟩
  have hs64 : s < 64 := by rw [hs]; exact (Lib.lowest_bit 64 (n - 1) (by omega) (by omega)).2
  have HSS := Lib.hid hs
  clear hn ha hT hnb hab hB hs
  go_enter Tryd.func46, Tryd.ntmps46
  go_wp2_with fail
  refine (newInt_any 1 _ (by unfold Ri; omega)).mono ?_
  rintro e w1 ⟨g1, rfl, hg1, hb, hf⟩
  have HO1 := Lib.hid hb
  have F1 := Lib.hid hf
  have hsz1 := hf.size
  have hg1b := hb.lt
  clear hb hf
  go_wp2_with fail
  have FA : Hid (Fr [] w1 (w1.alloc (.cells #[.bool false, .slice none 0 0] 38))) := Lib.hid ((Fr.refl [] w1).alloc _)
  refine (sub_any w1.heap.size gn g1 n 1 _ (BigAt_new w1).blk (HN.out.keep0 (F1.out.trans0 FA.out)) (HO1.out.keep0 FA.out) (by rw [Int.natAbs_natCast]; have := HL1.out; omega) (by rw [show (1 : Int).natAbs = 1 from rfl]; have := HONE.out; omega)).mono ?_
  rw [show ((n : Int) - 1) = ((n - 1 : Nat) : Int) by omega]
  rintro e w2 ⟨rfl, hb, hf⟩
  have HLS := Lib.hid hb
  have F12 : Hid (Fr [] w1 w2) := Lib.hid (FA.out.own1 hf (Nat.le_refl _))
  have F2 : Hid (Fr [] w w2) := Lib.hid (F1.out.trans0 F12.out)
  have HO2 := Lib.hid (HO1.out.keep0 F12.out)
  have hsz2 := F12.out.size
  have hl2 := hb.lt
  clear hb hf HO1 FA F12
  go_wp2_with (go_at_call 67; refine (trail_any _ (n - 1) _ HLS.out (by omega) HNB.out.2.1 (HT.out.keep0 F2.out)).mono ?_; rintro e w' ⟨he, rfl⟩; rw [← HSS.out] at he; subst he)
  obtain ⟨wb, hwb⟩ : ∃ wb, wb = (w2.alloc (.cells #[.bool false, .slice none 0 0] 38)).alloc (.cells #[.bool false, .slice none 0 0] 38) := ⟨_, rfl⟩
  have FB : Hid (Fr [] w2 wb) := Lib.hid (by rw [hwb]; exact ((Fr.refl [] w2).alloc _).alloc _)
  have HX0 : Hid (BigAt wb w2.heap.size 0) := Lib.hid (by rw [hwb]; exact (BigAt_new w2).keep0 ((Fr.refl [] _).alloc _))
  have HR0 : Hid (BigAt wb (w2.heap.size + 1) 0) := Lib.hid (by
    have h := BigAt_new (w2.alloc (.cells #[.bool false, .slice none 0 0] 38))
    rw [show (w2.alloc (.cells #[.bool false, .slice none 0 0] 38)).heap.size = w2.heap.size + 1 by simp] at h
    rw [hwb]; exact h)
  rw [← hwb]
  clear hwb
  have FWB : Hid (Fr [] w wb) := Lib.hid (F2.out.trans0 FB.out)
  have HLB := Lib.hid (HLS.out.keep0 FB.out)
  have HOB := Lib.hid (HO2.out.keep0 FB.out)
  clear HLS HO2 FB
  obtain ⟨q, hq⟩ : ∃ q, q = (n - 1) / 2 ^ s := ⟨_, rfl⟩
  have HQ1 : Hid ((limbs q).length ≤ 1) := Lib.hid (by rw [hq]; exact Nat.le_trans (limbs_length_mono (Nat.div_le_self _ _)) HL1.out.2.1)
  have HPN : Hid (passGo n s (expN a q n) = passN n a) := Lib.hid (by unfold passN; rw [hq, HSS.out])
  have hrsh := rsh_any (w2.heap.size + 1) w1.heap.size (n - 1) s wb HR0.out.blk HLB.out (by have := HL1.out; omega) (by omega)
  rw [← hq] at hrsh
  refine hrsh.mono ?_
  rintro e w3 ⟨rfl, hb, hf⟩
  have HR3 := Lib.hid hb
  have F3 : Hid (Fr [] w w3) := Lib.hid (FWB.out.own1 hf (by omega))
  have HX3 := Lib.hid (HX0.out.keep1 hf HR0.out (by omega))
  have HL3 := Lib.hid (HLB.out.keep1 hf HR0.out (by omega))
  have HO3 := Lib.hid (HOB.out.keep1 hf HR0.out (by omega))
  have hxb := hb.lt
  clear hb hf hrsh hq HR0 HX0 HLB HOB
  go_wp2_with fail
  refine (exp_any w2.heap.size ga (w2.heap.size + 1) gn a q n w3 HX3.out.blk (HA.out.keep0 F3.out) HR3.out (HN.out.keep0 F3.out) (by have := HL1.out; omega) (by have := HQ1.out; omega) (by have := HL1.out; omega) (by omega)).mono ?_
  obtain ⟨x0, hx0⟩ : ∃ x0, x0 = expN a q n := ⟨_, rfl⟩
  have HX0N : Hid (x0 < n) := Lib.hid (by rw [hx0]; exact expN_lt (by omega))
  rw [← hx0] at HPN ⊢
  rintro e w4 ⟨rfl, hb, hf⟩
  have HX4 := Lib.hid hb
  have F4 : Hid (Fr [] w w4) := Lib.hid (F3.out.own1 hf (by omega))
  have HL4 := Lib.hid (HL3.out.keep1 hf HX3.out (by omega))
  have HO4 := Lib.hid (HO3.out.keep1 hf HX3.out (by omega))
  have HN4 := Lib.hid (HN.out.keep0 F4.out)
  clear hb hf hx0 HX3 HL3 HO3 HR3
  go_wp2_with fail
  go_loopw [25] (fun iv wr => ∃ (k x : Nat), k ≤ s ∧ iv = .int .u64 (k : Int) ∧ Hid (BigAt wr w2.heap.size (x : Int)) ∧ Hid (x < n) ∧ Hid (Fr [w2.heap.size] w4 wr) ∧ Hid (passGo n (s - k) x = passN n a)) (fun iv _ => s - (intOf iv).toNat)
  case atStart => exact ⟨0, x0, by omega, rfl, HX4, HX0N, Lib.hid (Fr.refl _ _), HPN⟩
  case round =>
    obtain ⟨k, x, hk, rfl, HX, HXN, HFR, HP⟩ := hrel
    have FW : Hid (Fr [] w wr) := Lib.hid (F4.out.own1 HFR.out (by omega))
    by_cases hks : k = s
    · subst hks
      have hfin : passN n a = false := by rw [← HP.out, Nat.sub_self]; rfl
      have HFIN := Lib.hid hfin
      clear hfin HP
      go_wp2
      go_ret
      exact ⟨by rw [HFIN.out]; rfl, FW.out⟩
    · have hks2 : k < s := by omega
      obtain ⟨j, hj⟩ : ∃ j, s - k = j + 1 := ⟨s - k - 1, by omega⟩
      have hP := HP.out
      rw [hj] at hP
      have HLr := Lib.hid (HL4.out.keep1 HFR.out HX4.out (by omega))
      have HOr := Lib.hid (HO4.out.keep1 HFR.out HX4.out (by omega))
      have HNr := Lib.hid (HN4.out.keep1 HFR.out HX4.out (by omega))
      have HXB : Hid (x < BW) := Lib.hid (Nat.lt_trans HXN.out HNB.out.1)
      by_cases h1 : x = 1
      · have hfin : passN n a = true := by rw [← hP]; unfold passGo; rw [if_pos (Or.inl h1)]
        have HC := Lib.hid (cmp_is w2.heap.size g1 x 1 true wr HX.out HOr.out HXB.out (by rw [BW_eq]; omega) (by simp [h1]))
        have HFIN := Lib.hid hfin
        clear hfin HP hP h1 hj hks
        go_wp2_with (go_at_call 30; refine HC.out.mono ?_; rintro e w' ⟨c, nd, rfl, hc, rfl⟩)
        go_ret
        exact ⟨by rw [HFIN.out]; rfl, FW.out.drewN nd⟩
      · have HC := Lib.hid (cmp_is w2.heap.size g1 x 1 false wr HX.out HOr.out HXB.out (by rw [BW_eq]; omega) (by simp [h1]))
        by_cases h2 : x = n - 1
        · have hfin : passN n a = true := by rw [← hP]; unfold passGo; rw [if_pos (Or.inr h2)]
          have HFIN := Lib.hid hfin
          have HC2 : Hid (∀ nd, Calls Tryd.prog 30 #[.pointer (some ⟨w2.heap.size, 0, none⟩), .pointer (some ⟨w1.heap.size, 0, none⟩)] (wr.drewN nd) fun e w' => ∃ (c : Int) (n : Nat), e = .returned (.int .i64 c) ∧ (c == 0) = true ∧ w' = (wr.drewN nd).drewN n) :=
            Lib.hid (fun nd => cmp_is w2.heap.size w1.heap.size x (n - 1) true _ (HX.out.keep0 ((Fr.refl [] wr).drewN nd)) (HLr.out.keep0 ((Fr.refl [] wr).drewN nd)) HXB.out HNB.out.2.1 (by simp [h2]))
          clear hfin HP hP h1 hj hks h2
          go_wp2_with fail
          refine HC.out.mono ?_
          rintro e w' ⟨c, nd, rfl, hc, rfl⟩
          go_wp2_with fail
          refine (HC2.out nd).mono ?_
          rintro e w' ⟨c2, nd2, rfl, hc2, rfl⟩
          go_wp2
          go_ret
          exact ⟨by rw [HFIN.out]; rfl, FW.out.drewN _⟩
        · have HC2 : Hid (∀ nd, Calls Tryd.prog 30 #[.pointer (some ⟨w2.heap.size, 0, none⟩), .pointer (some ⟨w1.heap.size, 0, none⟩)] (wr.drewN nd) fun e w' => ∃ (c : Int) (n : Nat), e = .returned (.int .i64 c) ∧ (c == 0) = false ∧ w' = (wr.drewN nd).drewN n) :=
            Lib.hid (fun nd => cmp_is w2.heap.size w1.heap.size x (n - 1) false _ (HX.out.keep0 ((Fr.refl [] wr).drewN nd)) (HLr.out.keep0 ((Fr.refl [] wr).drewN nd)) HXB.out HNB.out.2.1 (by simp [h2]))
          obtain ⟨y, hy⟩ : ∃ y, y = x * x % n := ⟨_, rfl⟩
          have HYN : Hid (y < n) := Lib.hid (by rw [hy]; exact Nat.mod_lt _ (by omega))
          have HYB : Hid (y < BW) := Lib.hid (Nat.lt_trans HYN.out HNB.out.1)
          have HSX : Hid ((limbs x).length ≤ 1) := Lib.hid (len1 HXB.out)
          have HY := Lib.hid hy
          have HNXT : Hid ((if y = 1 then false else passGo n j y) = passN n a) := Lib.hid (by
            rw [← hP, hy]
            conv => rhs; rw [show passGo n (j + 1) x = (if x = 1 ∨ x = n - 1 then true else if x * x % n = 1 then false else passGo n j (x * x % n)) from rfl, if_neg (fun h => h.elim h1 h2)])
          clear HP hP h1 hks h2 hy
          go_wp2_with fail
          refine HC.out.mono ?_
          rintro e w' ⟨c, nd, rfl, hc, rfl⟩
          go_wp2_with fail
          refine (HC2.out nd).mono ?_
          rintro e w' ⟨c2, nd2, rfl, hc2, rfl⟩
          obtain ⟨wd, hwd⟩ : ∃ wd, wd = (wr.drewN nd).drewN nd2 := ⟨_, rfl⟩
          rw [← hwd]
          have FD : Hid (Fr [] wr wd) := Lib.hid (by rw [hwd]; exact ((Fr.refl [] wr).drewN nd).drewN nd2)
          have HXd := Lib.hid (HX.out.keep0 FD.out)
          clear hwd HC HC2
          go_wp2_with fail
          refine (mul_any w2.heap.size w2.heap.size w2.heap.size x x _ HXd.out.blk HXd.out HXd.out (by rw [Int.natAbs_natCast]; have := HSX.out; omega) (by rw [Int.natAbs_natCast]; have := HSX.out; omega)).mono ?_
          rw [← Int.natCast_mul]
          rintro e w5 ⟨rfl, hb, hf⟩
          have HX5 := Lib.hid hb
          have F5 := Lib.hid hf
          have HNr5 := Lib.hid ((HNr.out.keep0 FD.out).keep1 hf HXd.out (by omega))
          clear hb hf
          go_wp2_with fail
          refine (mod_any w2.heap.size w2.heap.size gn (x * x : Nat) n _ HX5.out.blk HX5.out HNr5.out (by rw [Int.natAbs_natCast]; have := limbs_mul_len x x; have := HSX.out; omega) (by rw [Int.natAbs_natCast]; have := HL1.out; omega) (by omega)).mono ?_
          rw [← Int.natCast_emod, ← HY.out]
          rintro e w6 ⟨rfl, hb, hf⟩
          have HX6 := Lib.hid hb
          have F6 : Hid (Fr [w2.heap.size] w4 w6) := Lib.hid (((HFR.out.trans0 FD.out).trans F5.out (by simp)).trans hf (by simp))
          have HO6 := Lib.hid (HO4.out.keep1 F6.out HX4.out (by omega))
          clear hb hf
          by_cases hy1 : y = 1
          · have HC3 := Lib.hid (cmp_is w2.heap.size g1 y 1 true _ HX6.out HO6.out HYB.out (by rw [BW_eq]; omega) (by simp [hy1]))
            have hfin : passN n a = false := by rw [← HNXT.out, if_pos hy1]
            have HFIN := Lib.hid hfin
            have FW6 : Hid (Fr [] w w6) := Lib.hid (F4.out.own1 F6.out (by omega))
            clear hfin hy1
            go_wp2_with fail
            refine HC3.out.mono ?_
            rintro e w' ⟨c3, nd3, rfl, hc3, rfl⟩
            go_wp2
            go_ret
            exact ⟨by rw [HFIN.out]; rfl, FW6.out.drewN nd3⟩
          · have HC3 := Lib.hid (cmp_is w2.heap.size g1 y 1 false _ HX6.out HO6.out HYB.out (by rw [BW_eq]; omega) (by simp [hy1]))
            have HNX : Hid (passGo n (s - (k + 1)) y = passN n a) := Lib.hid (by rw [← HNXT.out, if_neg hy1]; congr 1; omega)
            clear hy1
            go_wp2_with fail
            refine HC3.out.mono ?_
            rintro e w' ⟨c3, nd3, rfl, hc3, rfl⟩
            go_wp2_with fail
            go_roundw
            case rel => exact ⟨k + 1, y, by omega, by go_num, Lib.hid (HX6.out.keep0 ((Fr.refl [] w6).drewN nd3)), HYN, Lib.hid (F6.out.drewN nd3), HNX⟩
            case measure => simp [intOf]; omega
end Go.Proofs.YtedoeadhbcjjgaaDoor
