/- Joined by program (merge.py) out of 4 texts, a part of the proof: contracts of the functions that the statement reaches, and plain mathematics. No statement of the seat stands here. -/
import Derived.Test.YtedoeadhbcjjgaaDoorG04
import Derived.Test.YtedoeadhbcjjgaaDoorG01
import Derived.Deep.CutBlock
import Derived.Deep.DeepCutAuto
import Derived.Lib.ItoaNum
/- big.times: the walk. -/
namespace Go.Proofs.YtedoeadhbcjjgaaDoor
open Go.RowKit

set_option maxRecDepth 100000 in
set_option maxHeartbeats 4000000 in
theorem times_any (va vb : Value) (a b : Nat) (w : World) (ha : SlU w va (limbs a)) (hb : SlU w vb (limbs b)) (hla0 : (limbs a).length ≤ 10000000000) (hlb0 : (limbs b).length ≤ 10000000000) :
    Calls Tryd.prog 52 #[va, vb] w (OutU w (a * b)) := by
  obtain ⟨A, ca, rfl, _⟩ := ha.open_
  obtain ⟨B, cb, rfl, _⟩ := hb.open_
  by_cases hz : a = 0 ∨ b = 0
  · have hval : a * b = 0 := by rcases hz with rfl | rfl <;> simp
    rw [hval]
    have hl : (limbs a).length = 0 ∨ ((limbs a).length ≠ 0 ∧ (limbs b).length = 0) := by
      by_cases h : a = 0
      · left; simp [h, limbs_zero]
      · right; have : b = 0 := by omega
        exact ⟨by simp [limbs_eq_nil, h], by simp [this, limbs_zero]⟩
    have hfin : OutU w 0 (.returned (.slice none 0 0)) w := ⟨_, rfl, by rw [limbs_zero]; exact OwU_nil _ _, Fr.refl _ _⟩
    have HF := Lib.hid hfin
    clear hfin hval hz ha hb
    generalize (limbs a).length = la at *
    generalize (limbs b).length = lb at *
    rcases hl with h | ⟨h, h'⟩
    · subst h
      go_enter Tryd.func52, Tryd.ntmps52
      go_wp2
      go_ret
      exact HF.out
    · subst h'
      have h1 : ((la : Int) == 0) = false := by simpa using h
      go_enter Tryd.func52, Tryd.ntmps52
      go_wp2
      go_ret
      exact HF.out
  · have hpa : 0 < (limbs a).length := List.length_pos_iff.2 (limbs_ne (by omega))
    have hpb : 0 < (limbs b).length := List.length_pos_iff.2 (limbs_ne (by omega))
    clear hz
    have HSA := Lib.hid ha
    have HSB := Lib.hid hb
    have HVA := Lib.hid (val_limbs a)
    have HVB := Lib.hid (val_limbs b)
    clear ha hb
    generalize limbs a = xs at *
    generalize limbs b = ys at *
    obtain ⟨la, hla⟩ : ∃ la, la = xs.length := ⟨_, rfl⟩
    obtain ⟨lb, hlb⟩ : ∃ lb, lb = ys.length := ⟨_, rfl⟩
    rw [← hla] at hla0 hpa HSA ⊢
    rw [← hlb] at hlb0 hpb HSB ⊢
    have HLA := Lib.hid hla
    have HLB := Lib.hid hlb
    clear hla hlb
    have t1 : ((la : Int) == 0) = false := by simp; omega
    have t2 : ((lb : Int) == 0) = false := by simp; omega
    go_enter Tryd.func52, Tryd.ntmps52
    go_wp2_with (at_make; refine wp_makeU rfl _ _ rfl _ _ (la + lb) rfl rfl (by omega) (by omega) (by omega) w.heap.size (Nat.le_refl _) ?_; intro w1 hown hgrow hsz; have HO := Lib.hid hown; have HG := Lib.hid hgrow; clear hown hgrow)
    go_loopw [31] (fun iv wr => ∃ (i : Nat) (zs : List Nat), i ≤ la ∧ iv = .int .i64 (i : Int) ∧ Hid (RowU wr w.heap.size w.heap.size (la + lb) zs) ∧ Hid (Fr [] w wr) ∧
        Hid (val (zs.take (i + lb)) = val (xs.take i) * val ys)) (fun i _ => la - (intOf i).toNat)
    case atStart => exact ⟨0, List.replicate (la + lb) 0, by omega, rfl, Lib.hid ⟨by simp, HO.out⟩, HG, Lib.hid (by simp [val, val_replicate])⟩
    case round =>
      obtain ⟨i, zs, hi, rfl, HO1, HG1, HV⟩ := hrel
      clear HO HG
      obtain ⟨wo, rfl⟩ : ∃ wo : World, wo = wr := ⟨_, rfl⟩
      by_cases hlt : i < la
      · obtain ⟨ba, oa, rfl, h1⟩ := (HSA.out.keep0 HG1.out).get hlt
        obtain ⟨x, hx⟩ : ∃ x, x = xs.getD i 0 := ⟨_, rfl⟩
        rw [← hx] at h1
        have HXB : Hid (x < BW) := Lib.hid (by rw [hx]; exact HSA.out.bd.getD i)
        have HX := Lib.hid hx
        clear hx
        go_wp2
        go_loopw [8, 38] (fun cv kv wr => ∃ (k cy : Nat) (us : List Nat), k ≤ lb ∧ Hid (cy < BW) ∧ cv = .int .u64 (cy : Int) ∧ kv = .int .i64 (k : Int) ∧ Hid (RowU wr w.heap.size w.heap.size (la + lb) us) ∧ Hid (Fr [] w wr) ∧
            Hid (∀ j, i + k ≤ j → us.getD j 0 = zs.getD j 0) ∧ Hid (val (us.take (i + k)) + (BW ^ i * BW ^ k) * cy = val (zs.take (i + k)) + BW ^ i * (x * val (ys.take k)))) (fun _ k _ => lb - (intOf k).toNat)
        case atStart => exact ⟨0, 0, zs, by omega, Lib.hid BW_pos, rfl, rfl, HO1, HG1, Lib.hid (fun _ _ => rfl), Lib.hid (by simp [val])⟩
        case round =>
          obtain ⟨k, cy, us, hk, HCY, rfl, rfl, HO2, HG2, HU, HV2⟩ := hrel
          by_cases hlt2 : k < lb
          · obtain ⟨bb, ob, rfl, h2⟩ := (HSB.out.keep0 HG2.out).get hlt2
            obtain ⟨y, hy⟩ : ∃ y, y = ys.getD k 0 := ⟨_, rfl⟩
            rw [← hy] at h2
            have HYB : Hid (y < BW) := Lib.hid (by rw [hy]; exact HSB.out.bd.getD k)
            have HY := Lib.hid hy
            have hq := HO2.out.cell (k := i + k) (by omega)
            have hf := HO2.out.frozen (by omega) (i + k)
            obtain ⟨z, hz⟩ : ∃ z, z = us.getD (i + k) 0 := ⟨_, rfl⟩
            rw [← hz] at hq
            have HZB : Hid (z < BW) := Lib.hid (by rw [hz]; exact HO2.out.2.1.getD _)
            have HZ : Hid (z = zs.getD (i + k) 0) := Lib.hid (by rw [hz]; exact HU.out _ (Nat.le_refl _))
            clear hz hy
            obtain ⟨hm1, hm2⟩ := mac_facts HXB.out HYB.out HZB.out HCY.out
            have hmul := fun W => mul64_any x y HXB.out HYB.out W
            have hadd1 := fun W => add64_run (mulL x y) z 0 (by omega) W
            have hadd2 := fun W => add64_run (addS (mulL x y) z 0) cy 0 (by omega) W
            have hs2 := addS_lt (addS (mulL x y) z 0) cy 0
            generalize addS (addS (mulL x y) z 0) cy 0 = s2 at *
            generalize addC (addS (mulL x y) z 0) cy 0 = c2 at *
            generalize addS (mulL x y) z 0 = s1 at *
            generalize addC (mulL x y) z 0 = c1 at *
            generalize mulL x y = lo at *
            generalize mulH x y = h at *
            have HMUL := Lib.hid hmul
            have HM2 := Lib.hid hm2
            have HS2 := Lib.hid hs2
            have HCB := Lib.hid hm1
            rw [BW_eq] at hm1
            have hadd1' : ∀ W, (callFunc 77 #[.int .u64 (lo : Int), .int .u64 (z : Int), .int .u64 0]).run Tryd.prog W = .ok (.value (.tuple #[.int .u64 (s1 : Int), .int .u64 (c1 : Int)])) W := hadd1
            have hadd2' : ∀ W, (callFunc 77 #[.int .u64 (s1 : Int), .int .u64 (cy : Int), .int .u64 0]).run Tryd.prog W = .ok (.value (.tuple #[.int .u64 (s2 : Int), .int .u64 (c2 : Int)])) W := hadd2
            clear hadd1 hadd2 hmul hm2 hs2
            go_wp2_with (go_at_call 76; refine (HMUL.out _).mono ?_; rintro e w' ⟨rfl, rfl⟩)
            go_roundw
            case rel =>
              refine ⟨k + 1, h + c1 + c2, us.set (i + k) s2, by omega, HCB, ?_, by go_num, Lib.hid (HO2.out.store (i + k) s2 HS2.out), Lib.hid (HG2.out.setCell (by simp) _), Lib.hid ?_, Lib.hid ?_⟩
              · simp
              · intro j hj
                rw [getD_set_ne (by omega)]; exact HU.out j (by omega)
              · rw [show i + (k + 1) = (i + k) + 1 by omega, val_set_take (by rw [HO2.out.1]; omega), val_take_succ zs, val_take_succ ys, ← HZ.out, ← HY.out, Nat.pow_add, Nat.pow_succ]
                exact mac_step HM2.out HV2.out
            case measure => simp [intOf]; omega
          · have hkk : k = lb := by omega
            subst hkk
            have hq := HO2.out.cell (k := i + k) (by omega)
            have hf := HO2.out.frozen (by omega) (i + k)
            obtain ⟨q, hq'⟩ : ∃ q : Int, q = ((us.getD (i + k) 0 : Nat) : Int) := ⟨_, rfl⟩
            rw [← hq'] at hq
            clear hq'
            go_wp2
            go_roundw
            case rel =>
              refine ⟨i + 1, us.set (i + k) cy, by omega, by go_num, Lib.hid (HO2.out.store (i + k) cy HCY.out), Lib.hid (HG2.out.setCell (by simp) _), Lib.hid ?_⟩
              rw [show i + 1 + k = (i + k) + 1 by omega, val_set_take (by rw [HO2.out.1]; omega), val_take_succ xs, ← HX.out, Nat.pow_add]
              have h1 := HV2.out
              rw [HV.out, val_take_of_le (xs := ys) (n := k) (by rw [← HLB.out]; omega)] at h1
              rw [h1, Nat.add_mul]
              congr 1
              rw [Nat.mul_assoc]
            case measure => simp [intOf]; omega
      · have hkk : i = la := by omega
        subst hkk
        have hval : val zs = a * b := by
          have h1 := HV.out
          have h2 := HO1.out.1
          rwa [List.take_of_length_le (by omega), List.take_of_length_le (by rw [← HLA.out]; omega), HVA.out, HVB.out] at h1
        have HVV := Lib.hid hval
        have hz : Hid (zs.length = i + lb) := Lib.hid HO1.out.1
        clear hval
        go_wp2_with (go_at_call 70; refine (trim_ow w.heap.size _ zs _ HO1.out.2 (by rw [hz.out]; omega)).mono ?_)
        rintro e w2 ⟨v', rfl, ho, _, rfl⟩
        have HO2 := Lib.hid ho
        clear ho
        go_wp2
        go_ret
        refine ⟨_, rfl, ?_, HG1.out⟩
        rw [← HVV.out, limbs_val HO1.out.2.1]
        exact HO2.out
end Go.Proofs.YtedoeadhbcjjgaaDoor

/- math/bits.Div64: the walk. -/
namespace Go.Proofs.YtedoeadhbcjjgaaDoor
open Go.RowKit

theorem val_int {k : IntKind} {a b : Int} (h : a = b) : Value.int k a = Value.int k b := by rw [h]
theorem wrapU (n : Nat) : IntKind.u64.wrap (n : Int) = ((n % BW : Nat) : Int) := by simp [IntKind.wrap, IntKind.signed, IntKind.bits, BW_eq]
theorem wrapU_lt {n : Nat} (h : n < BW) : IntKind.u64.wrap (n : Int) = (n : Int) := by rw [wrapU, Nat.mod_eq_of_lt h]
theorem wrapU_mul {n m : Nat} (h : n * m < BW) : IntKind.u64.wrap ((n : Int) * (m : Int)) = ((n * m : Nat) : Int) := by rw [← Int.natCast_mul, wrapU_lt h]

set_option maxRecDepth 100000 in
set_option maxHeartbeats 8000000 in
/-- The walk, over names for all that it reckons. -/
theorem div64_core (hi lo y s t Y a b H Lh U L c d m1 m2 m3 r1 Q1 Q0 n1 n2 n3 r0 R : Nat) (w : World) (h0 : 0 < hi) (h1 : hi < y) (hy : y < BW) (ha : 0 < a) (hab : a < 4294967296) (hbb : b < 4294967296) (hcb : c < 4294967296) (hdb : d < 4294967296)
    (e1 : IntKind.u64.wrap (64 - ↑(bitLen y)) = (s : Int)) (e2 : IntKind.u64.wrap (↑y * 2 ^ min s 64) = (Y : Int)) (e3 : (Y : Int) / 4294967296 = (a : Int))
    (e4 : bits .and .u64 (Y : Int) 4294967295 = (b : Int)) (e5 : IntKind.u64.wrap (↑hi * 2 ^ min s 64) = (H : Int)) (e6 : IntKind.u64.wrap (64 - ↑s) = (t : Int)) (e7 : (lo : Int) / 2 ^ min t 64 = (Lh : Int))
    (e8 : bits .or .u64 (H : Int) (Lh : Int) = (U : Int)) (e9 : IntKind.u64.wrap (↑lo * 2 ^ min s 64) = (L : Int)) (e10 : (L : Int) / 4294967296 = (c : Int)) (e11 : bits .and .u64 (L : Int) 4294967295 = (d : Int))
    (hY : Y = a * 4294967296 + b) (hY2 : 4294967296 ≤ 2 * a) (hU : U < Y) (hYB : Y < BW)
    (e13 : IntKind.u64.wrap (↑U * 4294967296) = (m1 : Int)) (e14 : IntKind.u64.wrap (↑m1 + ↑c) = (m2 : Int)) (hQ1 : Q1 = (U * 4294967296 + c) / Y) (e15 : IntKind.u64.wrap (↑Q1 * ↑Y) = (m3 : Int))
    (e16 : IntKind.u64.wrap (↑m2 - ↑m3) = (r1 : Int)) (hr1 : r1 < Y) (hQ1b : Q1 < 4294967296)
    (f13 : IntKind.u64.wrap (↑r1 * 4294967296) = (n1 : Int)) (f14 : IntKind.u64.wrap (↑n1 + ↑d) = (n2 : Int)) (hQ0 : Q0 = (r1 * 4294967296 + d) / Y) (f15 : IntKind.u64.wrap (↑Q0 * ↑Y) = (n3 : Int))
    (f16 : IntKind.u64.wrap (↑n2 - ↑n3) = (r0 : Int)) (hQ0b : Q0 < 4294967296) (f17 : (r0 : Int) / 2 ^ min s 64 = (R : Int)) :
    Calls Tryd.prog 88 #[.int .u64 (hi : Int), .int .u64 (lo : Int), .int .u64 (y : Int)] w fun e w' => e = .returned (.tuple #[.int .u64 (Q1 * 4294967296 + Q0 : Int), .int .u64 (R : Int)]) ∧ w = w' := by
  have t1 : ((y : Int) == 0) = false := by simp; omega
  have t3 : ((hi : Int) == 0) = false := by simp; omega
  have t2 : ¬ y ≤ hi := by omega
  have HY := Lib.hid hY
  have HQ1 := Lib.hid hQ1
  have HQ0 := Lib.hid hQ0
  have HHY : Hid (hi < y) := Lib.hid h1
  have i1 := dv_init hY hbb hY2 ha (by omega) hcb hU
  rw [← hQ1] at i1
  have i2 := dv_init hY hbb hY2 ha (by omega) hdb hr1
  rw [← hQ0] at i2
  have wprod : ∀ q : Nat, q < 4294967296 → IntKind.u64.wrap ((q : Int) * (b : Int)) = ((q * b : Nat) : Int) := by
    intro q hq; apply wrapU_mul
    have : q * b ≤ 4294967295 * 4294967295 := Nat.mul_le_mul (by omega) (by omega)
    rw [BW_eq]; omega
  have HW := Lib.hid wprod
  have hYp : 0 < Y := by omega
  have hU2 : U < 18446744073709551616 := by rw [BW_eq] at hYB; omega
  have hr2 : r1 < 18446744073709551616 := by rw [BW_eq] at hYB; omega
  -- the first guess
  obtain ⟨q0, hq0⟩ : ∃ q0, q0 = U / a := ⟨_, rfl⟩
  obtain ⟨m0, hm0⟩ : ∃ m0, m0 = q0 * a := ⟨_, rfl⟩
  have e17 : (U : Int) / (a : Int) = (q0 : Int) := by rw [hq0]; rfl
  rw [← hq0] at i1
  have hra : m0 ≤ U := by rw [hm0, hq0]; exact Nat.div_mul_le_self U a
  have e12 : IntKind.u64.wrap (↑q0 * ↑a) = (m0 : Int) := by rw [hm0]; apply wrapU_mul; rw [← hm0, BW_eq]; omega
  have I1 : Hid (Q1 ≤ q0 ∧ q0 ≤ 4294967297 ∧ q0 * a + (U - m0) = U ∧ U - m0 < 4294967296) := Lib.hid ⟨i1.1, i1.2.1, by omega, by omega⟩
  -- the second
  obtain ⟨p0, hp0⟩ : ∃ p0, p0 = r1 / a := ⟨_, rfl⟩
  obtain ⟨n0, hn0⟩ : ∃ n0, n0 = p0 * a := ⟨_, rfl⟩
  have f11 : (r1 : Int) / (a : Int) = (p0 : Int) := by rw [hp0]; rfl
  rw [← hp0] at i2
  have hrb : n0 ≤ r1 := by rw [hn0, hp0]; exact Nat.div_mul_le_self r1 a
  have f12 : IntKind.u64.wrap (↑p0 * ↑a) = (n0 : Int) := by rw [hn0]; apply wrapU_mul; rw [← hn0, BW_eq]; omega
  have I2 : Hid (Q0 ≤ p0 ∧ p0 ≤ 4294967297 ∧ p0 * a + (r1 - n0) = r1 ∧ r1 - n0 < 4294967296) := Lib.hid ⟨i2.1, i2.2.1, by omega, by omega⟩
  have HU : Hid (U < Y) := Lib.hid hU
  have HR1 : Hid (r1 < Y) := Lib.hid hr1
  have HYP : Hid (0 < Y) := Lib.hid hYp
  have hq0b := i1.2.1
  have hp0b := i2.2.1
  clear hY hQ1 hQ0 i1 i2 wprod hq0 hm0 hp0 hn0 hY2 hYB h1 hU hr1 hYp
  go_enter Tryd.func88, Tryd.ntmps88
  go_upto_block 0 with (go_at_call 72; refine (lz64_any y hy _).mono ?_; rintro e w' ⟨rfl, rfl⟩)
  go_cut [15] (fun v w' => v = .int .u64 (Q1 : Int) ∧ w' = w)
  case first =>
    clear e1 e2 e3 e4 e5 e6 e7 e8 e9 e10 e11 e13 e14 e15 e16 f13 f14 f15 f16 f17 f11 f12 e12 e17
    go_wp2_with fail
    go_loop [15, 16] (fun qv rv => ∃ q r : Nat, Hid (Q1 ≤ q ∧ q * a + r = U) ∧ q ≤ 4294967297 ∧ r < 4294967296 ∧ qv = .int .u64 (q : Int) ∧ rv = .int .u64 (r : Int)) (fun qv _ => (intOf qv).toNat)
    case atStart => exact ⟨q0, U - m0, Lib.hid ⟨I1.out.1, I1.out.2.2.1⟩, I1.out.2.1, I1.out.2.2.2, rfl, by go_num⟩
    case round =>
      obtain ⟨q, r, HI, hq, hr, rfl, rfl⟩ := hrel
      have more : (4294967296 ≤ q ∨ 4294967296 * r + c < q * b) → 1 ≤ q ∧ Hid (Q1 ≤ q - 1 ∧ (q - 1) * a + (r + a) = U) ∧ (4294967296 ≤ r + a → Hid (q = Q1 + 1)) := by
        intro h
        have h1 := dv_more HY.out hcb HU.out HI.out.2 h
        rw [← HQ1.out] at h1
        obtain ⟨q', rfl⟩ : ∃ q', q = q' + 1 := ⟨q - 1, by omega⟩
        have h2 := HI.out.2
        refine ⟨by omega, Lib.hid ⟨by omega, by rw [Nat.add_sub_cancel, ← h2, Nat.add_mul]; omega⟩, fun hb => Lib.hid ?_⟩
        have := dv_break HY.out hbb HYP.out h2 (by rw [← HQ1.out]; omega) (by omega) hb
        rw [← HQ1.out] at this; omega
      by_cases hA : 4294967296 ≤ q
      · obtain ⟨hq1, HN, HB⟩ := more (.inl hA)
        have hA2 : decide ((4294967296 : Int) ≤ (q : Int)) = true := by simp; omega
        by_cases hB : 4294967296 ≤ r + a
        · have HE := HB hB
          have hB2 : decide ((4294967296 : Int) ≤ (r : Int) + (a : Int)) = true := by simp; omega
          clear more HB
          go_wp2
          go_meet
          exact ⟨val_int (by rw [HE.out]; omega), rfl⟩
        · have hB2 : decide ((4294967296 : Int) ≤ (r : Int) + (a : Int)) = false := by simp; omega
          clear more HB
          go_wp2
          go_round
          case rel => exact ⟨q - 1, r + a, HN, by omega, by omega, by go_num, by go_num⟩
          case measure => simp [intOf]; omega
      · have hw := HW.out q (by omega)
        have hA2 : decide ((4294967296 : Int) ≤ (q : Int)) = false := by simp; omega
        obtain ⟨m, hm⟩ : ∃ m, m = q * b := ⟨_, rfl⟩
        rw [← hm] at hw
        by_cases hC : 4294967296 * r + c < m
        · obtain ⟨hq1, HN, HB⟩ := more (.inr (by rw [← hm]; exact hC)) 
          have hC2 : decide ((4294967296 : Int) * (r : Int) + (c : Int) < (m : Int)) = true := by simp; omega
          by_cases hB : 4294967296 ≤ r + a
          · have HE := HB hB
            have hB2 : decide ((4294967296 : Int) ≤ (r : Int) + (a : Int)) = true := by simp; omega
            clear more HB hm
            go_wp2
            go_meet
            exact ⟨val_int (by rw [HE.out]; omega), rfl⟩
          · have hB2 : decide ((4294967296 : Int) ≤ (r : Int) + (a : Int)) = false := by simp; omega
            clear more HB hm
            go_wp2
            go_round
            case rel => exact ⟨q - 1, r + a, HN, by omega, by omega, by go_num, by go_num⟩
            case measure => simp [intOf]; omega
        · have hC2 : decide ((4294967296 : Int) * (r : Int) + (c : Int) < (m : Int)) = false := by simp; omega
          have HE : Hid (q = Q1) := Lib.hid (by rw [HQ1.out]; exact dv_stop HY.out HYP.out HI.out.2 (by rw [← HQ1.out]; exact HI.out.1) (by omega))
          clear more hm
          go_wp2
          go_meet
          exact ⟨by rw [HE.out], rfl⟩
  case rest =>
    obtain ⟨rfl, rfl⟩ := hcut
    go_upto_block 2 with fail
    go_cut [18] (fun v w' => v = .int .u64 (Q0 : Int) ∧ w' = wc)
    case first =>
      clear e1 e2 e3 e4 e5 e6 e7 e8 e9 e10 e11 e13 e14 e15 e16 f13 f14 f15 f16 f17 f11 f12 e12 e17
      go_wp2_with fail
      go_loop [18, 16] (fun qv rv => ∃ q r : Nat, Hid (Q0 ≤ q ∧ q * a + r = r1) ∧ q ≤ 4294967297 ∧ r < 4294967296 ∧ qv = .int .u64 (q : Int) ∧ rv = .int .u64 (r : Int)) (fun qv _ => (intOf qv).toNat)
      case atStart => exact ⟨p0, r1 - n0, Lib.hid ⟨I2.out.1, I2.out.2.2.1⟩, I2.out.2.1, I2.out.2.2.2, rfl, by go_num⟩
      case round =>
        obtain ⟨q, r, HI, hq, hr, rfl, rfl⟩ := hrel
        have more : (4294967296 ≤ q ∨ 4294967296 * r + d < q * b) → 1 ≤ q ∧ Hid (Q0 ≤ q - 1 ∧ (q - 1) * a + (r + a) = r1) ∧ (4294967296 ≤ r + a → Hid (q = Q0 + 1)) := by
          intro h
          have h1 := dv_more HY.out hdb HR1.out HI.out.2 h
          rw [← HQ0.out] at h1
          obtain ⟨q', rfl⟩ : ∃ q', q = q' + 1 := ⟨q - 1, by omega⟩
          have h2 := HI.out.2
          refine ⟨by omega, Lib.hid ⟨by omega, by rw [Nat.add_sub_cancel, ← h2, Nat.add_mul]; omega⟩, fun hb => Lib.hid ?_⟩
          have := dv_break HY.out hbb HYP.out h2 (by rw [← HQ0.out]; omega) (by omega) hb
          rw [← HQ0.out] at this; omega
        by_cases hA : 4294967296 ≤ q
        · obtain ⟨hq1, HN, HB⟩ := more (.inl hA)
          have hA2 : decide ((4294967296 : Int) ≤ (q : Int)) = true := by simp; omega
          by_cases hB : 4294967296 ≤ r + a
          · have HE := HB hB
            have hB2 : decide ((4294967296 : Int) ≤ (r : Int) + (a : Int)) = true := by simp; omega
            clear more HB
            go_wp2
            go_meet
            exact ⟨val_int (by rw [HE.out]; omega), rfl⟩
          · have hB2 : decide ((4294967296 : Int) ≤ (r : Int) + (a : Int)) = false := by simp; omega
            clear more HB
            go_wp2
            go_round
            case rel => exact ⟨q - 1, r + a, HN, by omega, by omega, by go_num, by go_num⟩
            case measure => simp [intOf]; omega
        · have hw := HW.out q (by omega)
          have hA2 : decide ((4294967296 : Int) ≤ (q : Int)) = false := by simp; omega
          obtain ⟨m, hm⟩ : ∃ m, m = q * b := ⟨_, rfl⟩
          rw [← hm] at hw
          by_cases hC : 4294967296 * r + d < m
          · obtain ⟨hq1, HN, HB⟩ := more (.inr (by rw [← hm]; exact hC)) 
            have hC2 : decide ((4294967296 : Int) * (r : Int) + (d : Int) < (m : Int)) = true := by simp; omega
            by_cases hB : 4294967296 ≤ r + a
            · have HE := HB hB
              have hB2 : decide ((4294967296 : Int) ≤ (r : Int) + (a : Int)) = true := by simp; omega
              clear more HB hm
              go_wp2
              go_meet
              exact ⟨val_int (by rw [HE.out]; omega), rfl⟩
            · have hB2 : decide ((4294967296 : Int) ≤ (r : Int) + (a : Int)) = false := by simp; omega
              clear more HB hm
              go_wp2
              go_round
              case rel => exact ⟨q - 1, r + a, HN, by omega, by omega, by go_num, by go_num⟩
              case measure => simp [intOf]; omega
          · have hC2 : decide ((4294967296 : Int) * (r : Int) + (d : Int) < (m : Int)) = false := by simp; omega
            have HE : Hid (q = Q0) := Lib.hid (by rw [HQ0.out]; exact dv_stop HY.out HYP.out HI.out.2 (by rw [← HQ0.out]; exact HI.out.1) (by omega))
            clear more hm
            go_wp2
            go_meet
            exact ⟨by rw [HE.out], rfl⟩
    case rest =>
      obtain ⟨rfl, rfl⟩ := hcut
      go_wp2
      go_ret2
      exact ⟨rfl, rfl⟩
end Go.Proofs.YtedoeadhbcjjgaaDoor

/- math/bits.Div64, the whole; big.short. -/
namespace Go.Proofs.YtedoeadhbcjjgaaDoor
open Go.RowKit

theorem bitLen_bounds {x : Nat} (h0 : x ≠ 0) (h : x < BW) : 1 ≤ bitLen x ∧ 2 ^ (bitLen x - 1) ≤ x ∧ x < 2 ^ bitLen x ∧ bitLen x ≤ 64 := by
  have h1 := Lib.bitLenAux_bounds 64 x (by rw [BW_eq] at h; exact h) h0
  refine ⟨h1.1, h1.2.1, h1.2.2, ?_⟩
  rcases Nat.lt_or_ge 64 (Lib.bitLenAux 64 x) with h2 | h2
  · have h3 : 2 ^ 64 ≤ 2 ^ (Lib.bitLenAux 64 x - 1) := Nat.pow_le_pow_right (by omega) (by omega)
    have h4 := h1.2.1
    rw [BW_pow] at h; omega
  · exact h2

theorem or_add {H Lh s hi : Nat} (hH : H = hi * 2 ^ s) (hb : H < BW) (hl : Lh < 2 ^ s) (hlb : Lh < BW) : bits .or .u64 (H : Int) (Lh : Int) = ((H + Lh : Nat) : Int) := by
  rw [bits_or_u64_nat _ _ (by rw [← BW_eq]; exact hb) (by rw [← BW_eq]; exact hlb)]
  congr 1
  rw [hH, Nat.mul_comm, Nat.two_pow_add_eq_or_of_lt hl]
theorem and_low {x : Nat} (hx : x < BW) : bits .and .u64 (x : Int) 4294967295 = ((x % 4294967296 : Nat) : Int) := by
  have := bits_and_u64_nat x 4294967295 (by rw [← BW_eq]; exact hx) (by omega)
  rw [show ((4294967295 : Nat) : Int) = 4294967295 from rfl] at this
  rw [this]
  congr 1
  exact Nat.and_two_pow_sub_one_eq_mod x 32

def Div64Post (n y : Nat) (w : World) (e : Ending) (w' : World) : Prop := e = .returned (.tuple #[.int .u64 ((n / y : Nat) : Int), .int .u64 ((n % y : Nat) : Int)]) ∧ ∃ k, w' = w.drewN k

theorem wrap_u (z : Int) : IntKind.u64.wrap z = z % 18446744073709551616 := by simp [IntKind.wrap, IntKind.signed, IntKind.bits]

theorem div64_pos (hi lo y : Nat) (w : World) (h0 : 0 < hi) (h1 : hi < y) (hy : y < BW) (hl : lo < BW) :
    Calls Tryd.prog 88 #[.int .u64 (hi : Int), .int .u64 (lo : Int), .int .u64 (y : Int)] w (Div64Post (hi * BW + lo) y w) := by
  obtain ⟨hb1, hb2, hb3, hb4⟩ := bitLen_bounds (x := y) (by omega) hy
  obtain ⟨t, ht⟩ : ∃ t, t = bitLen y := ⟨_, rfl⟩
  obtain ⟨s, hs⟩ : ∃ s, s = 64 - t := ⟨_, rfl⟩
  rw [← ht] at hb1 hb2 hb3 hb4
  have hst : (2 : Nat) ^ s * 2 ^ t = BW := by rw [← Nat.pow_add, BW_pow]; congr 1; omega
  have hst1 : (2 : Nat) ^ s * 2 ^ (t - 1) = 9223372036854775808 := by
    rw [← Nat.pow_add, show s + (t - 1) = 63 by omega]
  have hsp : 0 < 2 ^ s := Nat.pow_pos (by omega)
  have htp : 0 < 2 ^ t := Nat.pow_pos (by omega)
  have hmin : min s 64 = s := by omega
  have hmint : min t 64 = t := by omega
  -- y scaled
  obtain ⟨Y, hY⟩ : ∃ Y, Y = y * 2 ^ s := ⟨_, rfl⟩
  have hYB : Y < BW := by
    rw [hY, ← hst, Nat.mul_comm (2 ^ s)]; exact Nat.mul_lt_mul_of_pos_right hb3 hsp
  have hYl : 9223372036854775808 ≤ Y := by
    rw [hY, ← hst1, Nat.mul_comm (2 ^ s)]; exact Nat.mul_le_mul_right _ hb2
  have hYB' : Y < 18446744073709551616 := by rw [← BW_eq]; exact hYB
  -- the number scaled
  have hH : hi * 2 ^ s < BW := Nat.lt_of_lt_of_le (Nat.mul_lt_mul_of_pos_right h1 hsp) (by rw [← hY]; omega)
  have hLh : lo / 2 ^ t < 2 ^ s := by rw [Nat.div_lt_iff_lt_mul htp, hst]; exact hl
  have hsB : 2 ^ s ≤ BW := by rw [← hst]; exact Nat.le_mul_of_pos_right _ htp
  have hlo : lo * 2 ^ s = (lo / 2 ^ t) * BW + (lo % 2 ^ t) * 2 ^ s := by
    conv => lhs; rw [← Nat.div_add_mod lo (2 ^ t)]
    rw [Nat.add_mul, ← hst]; congr 1; ac_rfl
  have hLlt : (lo % 2 ^ t) * 2 ^ s < BW := by
    rw [← hst, Nat.mul_comm (2 ^ s)]; exact Nat.mul_lt_mul_of_pos_right (Nat.mod_lt _ htp) hsp
  obtain ⟨L, hL⟩ : ∃ L, L = (lo % 2 ^ t) * 2 ^ s := ⟨_, rfl⟩
  obtain ⟨U, hU⟩ : ∃ U, U = hi * 2 ^ s + lo / 2 ^ t := ⟨_, rfl⟩
  have hN : (hi * BW + lo) * 2 ^ s = U * BW + L := by
    rw [Nat.add_mul, hlo, hU, hL, Nat.add_mul]
    have : hi * BW * 2 ^ s = hi * 2 ^ s * BW := by ac_rfl
    omega
  have hUY : U < Y := by
    have h2 : (hi * BW + lo) * 2 ^ s < (y * BW) * 2 ^ s := by
      apply Nat.mul_lt_mul_of_pos_right _ hsp
      have : (hi + 1) * BW ≤ y * BW := Nat.mul_le_mul_right _ h1
      rw [Nat.add_mul] at this; omega
    rw [hN, show y * BW * 2 ^ s = Y * BW by rw [hY]; ac_rfl] at h2
    exact Nat.lt_of_mul_lt_mul_right (Nat.lt_of_le_of_lt (Nat.le_add_right _ _) h2)
  have hLB : L < BW := by rw [hL]; exact hLlt
  have hLB' : L < 18446744073709551616 := by rw [← BW_eq]; exact hLB
  have hLw : IntKind.u64.wrap (↑lo * 2 ^ min s 64) = (L : Int) := by
    rw [hmin, show ((lo : Int) * 2 ^ s) = ((lo * 2 ^ s : Nat) : Int) by simp, wrapU, hlo, hL, Nat.add_comm, Nat.add_mul_mod_self_right, Nat.mod_eq_of_lt hLlt]
  obtain ⟨Q1, hQ1⟩ : ∃ Q1, Q1 = (U * 4294967296 + L / 4294967296) / Y := ⟨_, rfl⟩
  obtain ⟨r1, hr1⟩ : ∃ r1, r1 = (U * 4294967296 + L / 4294967296) % Y := ⟨_, rfl⟩
  have hc : L / 4294967296 < 4294967296 := by omega
  have hd : L % 4294967296 < 4294967296 := by omega
  have hr1Y : r1 < Y := by rw [hr1]; exact Nat.mod_lt _ (by omega)
  obtain ⟨Q0, hQ0⟩ : ∃ Q0, Q0 = (r1 * 4294967296 + L % 4294967296) / Y := ⟨_, rfl⟩
  obtain ⟨r0, hr0⟩ : ∃ r0, r0 = (r1 * 4294967296 + L % 4294967296) % Y := ⟨_, rfl⟩
  have hr0Y : r0 < Y := by rw [hr0]; exact Nat.mod_lt _ (by omega)
  have hq1 : Q1 * Y + r1 = U * 4294967296 + L / 4294967296 := by rw [hQ1, hr1, Nat.mul_comm]; exact Nat.div_add_mod _ _
  have hq0 : Q0 * Y + r0 = r1 * 4294967296 + L % 4294967296 := by rw [hQ0, hr0, Nat.mul_comm]; exact Nat.div_add_mod _ _
  have two := dv_two (U := U) (c := L / 4294967296) (d := L % 4294967296) (D := 4294967296) (Y := Y) (by omega) hd
  have hUL : (U * 4294967296 + L / 4294967296) * 4294967296 + L % 4294967296 = (hi * BW + lo) * 2 ^ s := by rw [hN, BW_eq]; omega
  dsimp only at two
  rw [hUL, hY, Nat.mul_div_mul_right _ _ hsp, Nat.mul_mod_mul_right, ← hY, ← hQ1, ← hr1, ← hQ0, ← hr0] at two
  have key := div64_core hi lo y s t Y (Y / 4294967296) (Y % 4294967296) (hi * 2 ^ s) (lo / 2 ^ t) U L (L / 4294967296) (L % 4294967296)
    (U * 4294967296 % 18446744073709551616) ((U * 4294967296 % 18446744073709551616 + L / 4294967296) % 18446744073709551616) (Q1 * Y % 18446744073709551616) r1 Q1 Q0
    (r1 * 4294967296 % 18446744073709551616) ((r1 * 4294967296 % 18446744073709551616 + L % 4294967296) % 18446744073709551616) (Q0 * Y % 18446744073709551616) r0 ((hi * BW + lo) % y) w h0 h1 hy (by omega) (by omega) (by omega) hc hd
    (by rw [wrap_u, ← ht]; omega)
    (by rw [hmin, show ((y : Int) * 2 ^ s) = ((y * 2 ^ s : Nat) : Int) by simp, ← hY, wrapU_lt hYB])
    rfl
    (and_low hYB)
    (by rw [hmin, show ((hi : Int) * 2 ^ s) = ((hi * 2 ^ s : Nat) : Int) by simp, wrapU_lt hH])
    (by rw [wrap_u]; omega)
    (by rw [hmint]; simp)
    (by rw [hU]; exact or_add rfl hH hLh (by omega))
    hLw rfl (and_low hLB) (by omega) (by omega) hUY hYB
    (by rw [wrap_u]; omega) (by rw [wrap_u]; omega) hQ1
    (by rw [wrap_u, ← Int.natCast_mul]; generalize Q1 * Y = p; omega)
    (by rw [wrap_u]; generalize Q1 * Y = p at *; omega)
    hr1Y (by rw [hQ1]; exact dv_lt hUY hc)
    (by rw [wrap_u]; omega) (by rw [wrap_u]; omega) hQ0
    (by rw [wrap_u, ← Int.natCast_mul]; generalize Q0 * Y = p; omega)
    (by rw [wrap_u]; generalize Q0 * Y = p at *; omega)
    (by rw [hQ0]; exact dv_lt hr1Y hd)
    (by rw [hmin, ← two.2, show (((hi * BW + lo) % y * 2 ^ s : Nat) : Int) / 2 ^ s = ((((hi * BW + lo) % y * 2 ^ s) / 2 ^ s : Nat) : Int) by simp, Nat.mul_div_cancel _ hsp])
  refine key.mono ?_
  rintro e w' ⟨rfl, rfl⟩
  refine ⟨?_, 0, rfl⟩
  rw [two.1]
  simp

set_option maxRecDepth 100000 in
set_option maxHeartbeats 4000000 in
theorem div64_zero (lo y : Nat) (w : World) (hy : 0 < y) (hyb : y < BW) (hl : lo < BW) :
    Calls Tryd.prog 88 #[.int .u64 0, .int .u64 (lo : Int), .int .u64 (y : Int)] w (Div64Post lo y w) := by
  have t1 : ((y : Int) == 0) = false := by simp; omega
  have e1 : (lo : Int) / (y : Int) = ((lo / y : Nat) : Int) := by simp
  have e2 : (lo : Int) % (y : Int) = ((lo % y : Nat) : Int) := by simp
  have q1 : lo / y ≤ lo := Nat.div_le_self _ _
  have q2 : lo % y ≤ lo := Nat.mod_le _ _
  obtain ⟨Q, hQ⟩ : ∃ Q, Q = lo / y := ⟨_, rfl⟩
  obtain ⟨R, hR⟩ : ∃ R, R = lo % y := ⟨_, rfl⟩
  rw [← hQ] at e1 q1
  have HQ := Lib.hid hQ
  clear hQ hR R e2
  rw [BW_eq] at hl
  go_enter Tryd.func88, Tryd.ntmps88
  go_wp2
  go_quiet (fail)
  go_wp2
  go_ret2
  refine ⟨?_, _, rfl⟩
  show Ending.returned (Value.tuple #[.int .u64 (Q : Int), .int .u64 ((lo : Int) % (y : Int))]) = _
  rw [HQ.out]; simp

theorem div64_any (hi lo y : Nat) (w : World) (h1 : hi < y) (hy : y < BW) (hl : lo < BW) :
    Calls Tryd.prog 88 #[.int .u64 (hi : Int), .int .u64 (lo : Int), .int .u64 (y : Int)] w (Div64Post (hi * BW + lo) y w) := by
  rcases Nat.eq_zero_or_pos hi with rfl | h
  · have := div64_zero lo y w (by omega) hy hl
    simpa using this
  · exact div64_pos hi lo y w h h1 hy hl
end Go.Proofs.YtedoeadhbcjjgaaDoor

/- big.short: the walk. -/
namespace Go.Proofs.YtedoeadhbcjjgaaDoor
open Go.RowKit

def ShortPost (a b : Nat) (w : World) (e : Ending) (w' : World) : Prop := ∃ v', e = .returned (.tuple #[v', .int .u64 ((a % b : Nat) : Int)]) ∧ OwU w' w.heap.size v' (limbs (a / b)) ∧ Fr [] w w'

theorem short_step {x b r V : Nat} (hb : 0 < b) (q : Nat) (hq : q = (r * BW + x) / b) : x + BW * (b * V + r) = b * (q + BW * V) + (r * BW + x) % b := by
  have h := Nat.div_add_mod (r * BW + x) b
  rw [← hq] at h
  have e1 : BW * (b * V + r) = BW * (b * V) + r * BW := by rw [Nat.mul_add, Nat.mul_comm r]
  have e2 : b * (q + BW * V) = b * q + BW * (b * V) := by rw [Nat.mul_add]; congr 1; ac_rfl
  omega

set_option maxRecDepth 100000 in
set_option maxHeartbeats 4000000 in
theorem short_any (va : Value) (a b : Nat) (w : World) (ha : SlU w va (limbs a)) (hl : (limbs a).length ≤ 100000000000) (hb : 0 < b) (hbb : b < BW) :
    Calls Tryd.prog 71 #[va, .int .u64 (b : Int)] w (ShortPost a b w) := by
  obtain ⟨A, ca, rfl, _⟩ := ha.open_
  have HSA := Lib.hid ha
  have HVA := Lib.hid (val_limbs a)
  clear ha
  generalize limbs a = xs at *
  obtain ⟨la, hla⟩ : ∃ la, la = xs.length := ⟨_, rfl⟩
  rw [← hla] at hl HSA ⊢
  have HLA := Lib.hid hla
  clear hla
  go_enter Tryd.func71, Tryd.ntmps71
  go_wp2_with (at_make; refine wp_makeU rfl _ _ rfl _ _ la rfl rfl (by omega) (by omega) (by omega) w.heap.size (Nat.le_refl _) ?_; intro w1 hown hgrow hsz; have HO := Lib.hid hown; have HG := Lib.hid hgrow; clear hown hgrow)
  go_loopw [7, 8] (fun rv iv wr => ∃ (n r : Nat) (zs : List Nat), n ≤ la ∧ Hid (r < b) ∧ rv = .int .u64 (r : Int) ∧ iv = .int .i64 ((n : Int) - 1) ∧ Hid (RowU wr w.heap.size w.heap.size la zs) ∧ Hid (Fr [] w wr) ∧
      Hid (val (xs.drop n) = b * val (zs.drop n) + r)) (fun _ i _ => (intOf i + 1).toNat)
  case atStart => exact ⟨la, 0, List.replicate la 0, by omega, Lib.hid hb, rfl, rfl, Lib.hid ⟨by simp, HO.out⟩, HG, Lib.hid (by rw [List.drop_of_length_le (by rw [← HLA.out]; exact Nat.le_refl _), List.drop_of_length_le (by simp)]; simp [val])⟩
  case round =>
    obtain ⟨n, r, zs, hn, HR, rfl, rfl, HO1, HG1, HV⟩ := hrel
    clear HO HG
    by_cases hp : 0 < n
    · obtain ⟨k, rfl⟩ : ∃ k, n = k + 1 := ⟨n - 1, by omega⟩
      have e1 : (((k + 1 : Nat) : Int) - 1) = (k : Int) := by omega
      rw [e1]
      clear e1
      obtain ⟨ba, oa, rfl, h1⟩ := (HSA.out.keep0 HG1.out).get (k := k) (by omega)
      obtain ⟨x, hx⟩ : ∃ x, x = xs.getD k 0 := ⟨_, rfl⟩
      rw [← hx] at h1
      have HXB : Hid (x < BW) := Lib.hid (by rw [hx]; exact HSA.out.bd.getD k)
      have HX := Lib.hid hx
      have hf := HO1.out.frozen (by omega) k
      have hq := HO1.out.cell (k := k) (by omega)
      obtain ⟨q, hq'⟩ : ∃ q : Int, q = ((zs.getD k 0 : Nat) : Int) := ⟨_, rfl⟩
      rw [← hq'] at hq
      clear hq' hx
      go_wp2_with (go_at_call 88; refine (div64_any r x b _ HR.out hbb HXB.out).mono ?_; rintro e w' ⟨rfl, nd, rfl⟩)
      go_roundw
      case rel =>
        have hqb : (r * BW + x) / b < BW := by
          rw [Nat.div_lt_iff_lt_mul hb]
          have h2 : (r + 1) * BW ≤ b * BW := Nat.mul_le_mul_right _ HR.out
          rw [Nat.add_mul] at h2
          have h3 := HXB.out
          rw [Nat.mul_comm BW b]; omega
        refine ⟨k, (r * BW + x) % b, zs.set k ((r * BW + x) / b), by omega, Lib.hid (Nat.mod_lt _ hb), rfl, rfl, Lib.hid (RowU.store (HO1.out.keep ((Fr.refl [] wr).drewN nd) (by simp)) k _ hqb), Lib.hid ((HG1.out.drewN nd).setCell (by simp) _), Lib.hid ?_⟩
        rw [val_drop (by rw [← HLA.out]; omega), val_set_drop (by rw [HO1.out.1]; omega), HV.out, ← HX.out]
        exact short_step hb _ rfl
      case measure => simp [intOf]
    · have hz : n = 0 := by omega
      subst hz
      have hval : val zs = a / b ∧ r = a % b := by
        have h1 := HV.out
        rw [List.drop_zero, List.drop_zero, HVA.out] at h1
        have h2 := HR.out
        rw [h1]
        constructor
        · rw [Nat.mul_add_div hb, Nat.div_eq_of_lt h2, Nat.add_zero]
        · rw [Nat.mul_add_mod, Nat.mod_eq_of_lt h2]
      have HVV := Lib.hid hval
      have hz : Hid (zs.length = la) := Lib.hid HO1.out.1
      clear hval
      go_wp2_with (go_at_call 70; refine (trim_ow w.heap.size _ zs _ HO1.out.2 (by rw [hz.out]; omega)).mono ?_)
      rintro e w2 ⟨v', rfl, ho, _, rfl⟩
      have HO2 := Lib.hid ho
      clear ho
      go_wp2
      go_ret2
      refine ⟨v', by rw [← HVV.out.2]; rfl, ?_, HG1.out⟩
      rw [← HVV.out.1, limbs_val HO1.out.2.1]
      exact HO2.out
end Go.Proofs.YtedoeadhbcjjgaaDoor
