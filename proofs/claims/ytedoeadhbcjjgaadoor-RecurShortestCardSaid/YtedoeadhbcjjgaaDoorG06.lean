/- Joined by program (merge.py) out of 3 texts, a part of the proof: contracts of the functions that the statement reaches, and plain mathematics. No statement of the seat stands here. -/
import Derived.Test.YtedoeadhbcjjgaaDoorG05
import Derived.Test.YtedoeadhbcjjgaaDoorG01
import Derived.RegionTactic
import Derived.ChangeAlike
import Derived.Test.YtedoeadhbcjjgaaDoorG04
/- big.left: the walk. -/
namespace Go.Proofs.YtedoeadhbcjjgaaDoor
open Go.RowKit

set_option maxRecDepth 100000 in
set_option maxHeartbeats 4000000 in
theorem left_any (va : Value) (a n : Nat) (w : World) (ha : SlU w va (limbs a)) (hl : (limbs a).length ≤ 1000000000) (hn : n ≤ 10000000000) :
    Calls Tryd.prog 73 #[va, .int .u64 (n : Int)] w (OutU w (a * 2 ^ n)) := by
  obtain ⟨A, ca, rfl, _⟩ := ha.open_
  by_cases h0 : a = 0
  · subst h0
    rw [limbs_zero] at ha ⊢
    have HF : Hid (OutU w (0 * 2 ^ n) (.returned (.slice none 0 0)) w) := Lib.hid ⟨_, rfl, by rw [Nat.zero_mul, limbs_zero]; exact OwU_nil _ _, Fr.refl _ _⟩
    clear ha
    go_enter Tryd.func73, Tryd.ntmps73
    go_wp2
    go_ret
    exact HF.out
  · have hpa : 0 < (limbs a).length := List.length_pos_iff.2 (limbs_ne h0)
    clear h0
    have HSA := Lib.hid ha
    have HVA := Lib.hid (val_limbs a)
    clear ha
    generalize limbs a = xs at *
    obtain ⟨la, hla⟩ : ∃ la, la = xs.length := ⟨_, rfl⟩
    rw [← hla] at hl hpa HSA ⊢
    have HLA := Lib.hid hla
    clear hla
    have t1 : ((la : Int) == 0) = false := by simp; omega
    obtain ⟨q, hq⟩ : ∃ q, q = n / 64 := ⟨_, rfl⟩
    obtain ⟨s, hs⟩ : ∃ s, s = n % 64 := ⟨_, rfl⟩
    have e1 : (n : Int) / 64 = (q : Int) := by rw [hq]; rfl
    have e2 : (n : Int) % 64 = (s : Int) := by rw [hs]; rfl
    have hs64 : s < 64 := by omega
    have hqb : q ≤ 1000000000 := by omega
    have HQ := Lib.hid hq
    have HS := Lib.hid hs
    clear hq hs
    go_enter Tryd.func73, Tryd.ntmps73
    go_wp2_with (at_make; refine wp_makeU2 rfl _ _ rfl _ _ _ _ q (q + la + 1) rfl rfl (by omega) (by omega) (by omega) (by omega) w.heap.size (Nat.le_refl _) ?_; intro w1 hown hgrow hsz; have HO := Lib.hid hown; have HG := Lib.hid hgrow; clear hown hgrow)
    go_loopw [5, 6, 24] (fun ov lv kv wr => ∃ (k low : Nat) (ds : List Nat), k ≤ la ∧ Hid (low < 2 ^ s) ∧ lv = .int .u64 (low : Int) ∧ kv = .int .i64 (k : Int) ∧ Hid (ds.length = k) ∧ Hid (OwU wr w.heap.size ov (List.replicate q 0 ++ ds)) ∧ Hid (Fr [] w wr) ∧
        Hid (val ds + BW ^ k * low = val (xs.take k) * 2 ^ s)) (fun _ _ k _ => la - (intOf k).toNat)
    case atStart => exact ⟨0, 0, [], by omega, Lib.hid (Nat.pow_pos (by omega)), rfl, rfl, Lib.hid rfl, by simpa using HO, HG, Lib.hid (by simp [val])⟩
    case round =>
      obtain ⟨k, low, ds, hk, HLOW, rfl, rfl, HD, HO1, HG1, HV⟩ := hrel
      clear HO HG
      by_cases hlt : k < la
      · obtain ⟨ba, oa, rfl, h1⟩ := (HSA.out.keep0 HG1.out).get hlt
        obtain ⟨x, hx⟩ : ∃ x, x = xs.getD k 0 := ⟨_, rfl⟩
        rw [← hx] at h1
        have hxb : x < BW := by rw [hx]; exact HSA.out.bd.getD k
        have HX := Lib.hid hx
        obtain ⟨t, ht⟩ : ∃ t, t = 64 - s := ⟨_, rfl⟩
        have r4 : (64 : Int) - (s : Int) = (t : Int) := by omega
        have hts : (2 : Nat) ^ s * 2 ^ t = BW := by rw [← Nat.pow_add, BW_pow]; congr 1; omega
        have hsp : 0 < 2 ^ s := Nat.pow_pos (by omega)
        have htp : 0 < 2 ^ t := Nat.pow_pos (by omega)
        have hlow' : x / 2 ^ t < 2 ^ s := by rw [Nat.div_lt_iff_lt_mul htp, hts]; exact hxb
        have hdec : x * 2 ^ s = x / 2 ^ t * BW + (x % 2 ^ t) * 2 ^ s := by
          conv => lhs; rw [← Nat.div_add_mod x (2 ^ t)]
          rw [Nat.add_mul, ← hts]; congr 1; ac_rfl
        have hplt : (x % 2 ^ t) * 2 ^ s + 2 ^ s ≤ BW := by
          rw [← hts, Nat.mul_comm (2 ^ s)]
          have := Nat.mul_le_mul_right (2 ^ s) (Nat.mod_lt x htp)
          rw [Nat.succ_mul] at this; exact this
        have hmod : x * 2 ^ s % BW = (x % 2 ^ t) * 2 ^ s := by rw [hdec, Nat.add_comm, Nat.add_mul_mod_self_right, Nat.mod_eq_of_lt (by omega)]
        have hdiv : x * 2 ^ s / BW = x / 2 ^ t := by rw [hdec, Nat.add_comm, Nat.add_mul_div_right _ _ BW_pos, Nat.div_eq_of_lt (by omega), Nat.zero_add]
        obtain ⟨p, hp⟩ : ∃ p, p = x * 2 ^ s % BW := ⟨_, rfl⟩
        obtain ⟨lw, hlw⟩ : ∃ lw, lw = x / 2 ^ t := ⟨_, rfl⟩
        have hlowb := HLOW.out
        have r1 : IntKind.u64.wrap (↑x * 2 ^ s) = (p : Int) := by
          rw [show ((x : Int) * 2 ^ s) = ((x * 2 ^ s : Nat) : Int) by simp, wrapU, hp]
        have r2 : bits .or .u64 (p : Int) (low : Int) = ((p + low : Nat) : Int) := or_add (s := s) (hi := x % 2 ^ t) (by rw [hp, hmod]) (by rw [hp]; exact Nat.mod_lt _ BW_pos) hlowb (by omega)
        have r5 : (x : Int) / 2 ^ t = (lw : Int) := by rw [hlw]; simp
        obtain ⟨d, hd⟩ : ∃ d, d = p + low := ⟨_, rfl⟩
        rw [← hd] at r2
        have hdb : d < BW := by rw [hd, hp, hmod]; omega
        have HN : Hid (lw < 2 ^ s ∧ (val (ds ++ [d]) + BW ^ (k + 1) * lw = val (xs.take (k + 1)) * 2 ^ s) ∧ d < BW) := Lib.hid (by
          refine ⟨by rw [hlw]; exact hlow', ?_, hdb⟩
          rw [val_append, val_single, HD.out, val_take_succ, ← HX.out, Nat.pow_succ, hd, hp, hlw, ← hdiv]
          refine left_step HV.out ?_
          have := Nat.mod_add_div (x * 2 ^ s) BW
          omega)
        clear hx ht hts hsp htp hlow' hdec hplt hmod hdiv hp hlw hlowb hd hdb hxb
        have hlen : (List.replicate q 0 ++ ds).length = q + k := by simp [HD.out]
        have HL := Lib.hid hlen
        clear hlen
        go_wp2_with (at_builtin; refine wp_appendU rfl _ _ rfl w.heap.size _ (List.replicate q 0 ++ ds) rfl (HO1.out.alloc _) wr.heap.size 0 1 [d] rfl (by intro j hj; match j, hj with | 0, _ => simp [World.cell?_alloc_new]) (Bd.cons HN.out.2.2 Bd.nil) (by rw [HL.out]; simp; omega) (by have := HG1.out.size; simp; omega) ?_; intro v' w2 ho hfr _ _; have HO2 := Lib.hid ho; have HF2 := Lib.hid ((HG1.out.alloc _).trans_own (HO1.out.alloc _) hfr); clear ho hfr)
        go_roundw
        case rel => exact ⟨k + 1, lw, ds ++ [d], by omega, Lib.hid HN.out.1, rfl, by go_num, Lib.hid (by simp [HD.out]), by rw [← List.append_assoc]; exact HO2, HF2, Lib.hid HN.out.2.1⟩
        case measure => simp [intOf]; omega
      · have hkk : k = la := by omega
        subst hkk
        have hlowB : low < BW := by
          have := HLOW.out
          have h2 : 2 ^ s ≤ 2 ^ 64 := Nat.pow_le_pow_right (by omega) (by omega)
          rw [← BW_pow] at h2; omega
        have HLB := Lib.hid hlowB
        have hlen : (List.replicate q 0 ++ ds).length = q + k := by simp [HD.out]
        have HL := Lib.hid hlen
        clear hlen hlowB
        go_wp2_with (first
          | (at_builtin; refine wp_appendU rfl _ _ rfl w.heap.size _ (List.replicate q 0 ++ ds) rfl (HO1.out.alloc _) wr.heap.size 0 1 [low] rfl (by intro j hj; match j, hj with | 0, _ => simp [World.cell?_alloc_new]) (Bd.cons HLB.out Bd.nil) (by rw [HL.out]; simp; omega) (by have := HG1.out.size; simp; omega) ?_; intro v' w2 ho hfr _ _; have HO2 := Lib.hid ho; have HF2 := Lib.hid ((HG1.out.alloc _).trans_own (HO1.out.alloc _) hfr); clear ho hfr)
          | (go_at_call 70; refine (trim_ow w.heap.size _ (List.replicate q 0 ++ ds ++ [low]) _ HO2.out (by rw [List.length_append, HL.out]; simp; omega)).mono ?_; rintro e w3 ⟨v3, rfl, ho3, _, rfl⟩; have HO3 := Lib.hid ho3; clear ho3))
        go_ret
        refine ⟨_, rfl, ?_, HF2.out⟩
        have hval : val (List.replicate q 0 ++ ds ++ [low]) = a * 2 ^ n := by
          rw [List.append_assoc, replicate_val_append, val_append, val_single, HD.out, HV.out, val_take_of_le (by rw [← HLA.out]; exact Nat.le_refl _), HVA.out, pow_split n, ← HQ.out, ← HS.out]
          ac_rfl
        rw [← hval, limbs_val HO2.out.1]
        exact HO3.out
end Go.Proofs.YtedoeadhbcjjgaaDoor

/- big.right: the walk. -/
namespace Go.Proofs.YtedoeadhbcjjgaaDoor
open Go.RowKit

def RightPost (a n : Nat) (w : World) (e : Ending) (w' : World) : Prop := ∃ v', e = .returned (.tuple #[v', .bool (decide (a % 2 ^ n ≠ 0))]) ∧ OwU w' w.heap.size v' (limbs (a / 2 ^ n)) ∧ Fr [] w w'

theorem val_take_ne (xs : List Nat) (j : Nat) : (val (xs.take (j + 1)) ≠ 0) ↔ (val (xs.take j) ≠ 0 ∨ xs.getD j 0 ≠ 0) := by
  rw [val_take_succ]
  have := BWk_pos j
  constructor
  · intro h
    by_cases h1 : val (xs.take j) = 0
    · right; intro h2; rw [h1, h2] at h; simp at h
    · exact .inl h1
  · rintro (h | h)
    · omega
    · have := Nat.mul_pos this (Nat.pos_of_ne_zero h); omega

set_option maxRecDepth 100000 in
set_option maxHeartbeats 4000000 in
theorem right_zero (A : Option Addr) (ca n : Nat) (w : World) (hn : n ≤ 10000000000) :
    Calls Tryd.prog 75 #[.slice A 0 ca, .int .u64 (n : Int)] w (RightPost 0 n w) := by
  have HF : Hid (RightPost 0 n w (.returned (.tuple #[.slice none 0 0, .bool false])) w) := Lib.hid ⟨.slice none 0 0, by simp, by rw [Nat.zero_div, limbs_zero]; exact OwU_nil _ _, Fr.refl _ _⟩
  have hm : min ((n : Int) / 64) 0 = 0 := by omega
  go_enter Tryd.func75, Tryd.ntmps75
  go_wp2
  go_loop [7, 24] (fun l i => l = .bool false ∧ i = .int .i64 0) (fun _ _ => 0)
  case atStart => exact ⟨rfl, rfl⟩
  case round =>
    obtain ⟨rfl, rfl⟩ := hrel
    go_wp2
    all_goals
      go_ret2
      exact HF.out

set_option maxRecDepth 100000 in
set_option maxHeartbeats 8000000 in
theorem right_any (va : Value) (a n : Nat) (w : World) (ha : SlU w va (limbs a)) (hl : (limbs a).length ≤ 1000000000) (hn : n ≤ 10000000000) :
    Calls Tryd.prog 75 #[va, .int .u64 (n : Int)] w (RightPost a n w) := by
  obtain ⟨A, ca, rfl, _⟩ := ha.open_
  have hcap := ha.cap
  by_cases h0 : a = 0
  · subst h0
    have hz : (limbs 0).length = 0 := by rw [limbs_zero]; rfl
    rw [hz]
    exact right_zero A ca n w hn
  have hpa : 0 < (limbs a).length := List.length_pos_iff.2 (limbs_ne h0)
  have HSA := Lib.hid ha
  have HVA := Lib.hid (val_limbs a)
  clear ha
  generalize limbs a = xs at *
  obtain ⟨la, hla⟩ : ∃ la, la = xs.length := ⟨_, rfl⟩
  rw [← hla] at hl hpa HSA hcap ⊢
  have HLA := Lib.hid hla
  clear hla h0
  obtain ⟨b, o, rfl, _⟩ := HSA.out.get (k := 0) hpa
  obtain ⟨k, hk⟩ : ∃ k, k = min (n / 64) la := ⟨_, rfl⟩
  have hmin : min ((n : Int) / 64) (la : Int) = (k : Int) := by omega
  have hkl : k ≤ la := by omega
  have HK := Lib.hid hk
  clear hk
  go_enter Tryd.func75, Tryd.ntmps75
  go_wp2
  go_loop [7, 24] (fun l i => ∃ (j : Nat) (lb : Bool), j ≤ k ∧ l = .bool lb ∧ i = .int .i64 (j : Int) ∧ Hid (lb = decide (val (xs.take j) ≠ 0))) (fun _ i => k - (intOf i).toNat)
  case atStart => exact ⟨0, false, by omega, rfl, rfl, Lib.hid (by simp [val])⟩
  case round =>
    obtain ⟨j, lb, hj, rfl, rfl, HLB⟩ := hrel
    by_cases hlt : j < k
    · have h1 := HSA.out.get' (k := j) (by omega)
      obtain ⟨x, hx⟩ : ∃ x, x = xs.getD j 0 := ⟨_, rfl⟩
      rw [← hx] at h1
      have HX := Lib.hid hx
      clear hx
      have hnext : ∀ lb', lb' = (lb || decide (x ≠ 0)) → Hid (lb' = decide (val (xs.take (j + 1)) ≠ 0)) := by
        rintro lb' rfl
        refine Lib.hid ?_
        rw [HLB.out, HX.out]
        have := val_take_ne xs j
        by_cases q1 : val (xs.take j) = 0 <;> by_cases q2 : xs.getD j 0 = 0 <;> simp_all
      cases lb
      · by_cases hx0 : x = 0
        · have t : ((x : Int) != 0) = false := by simp [hx0]
          have hn2 := hnext false (by simp [hx0])
          clear hnext hx0
          go_wp2
          go_round
          case rel => exact ⟨j + 1, false, by omega, rfl, by go_num, hn2⟩
          case measure => simp [intOf]; omega
        · have t : ((x : Int) != 0) = true := by simp [hx0]
          have hn2 := hnext true (by simp [hx0])
          clear hnext hx0
          go_wp2
          go_round
          case rel => exact ⟨j + 1, true, by omega, rfl, by go_num, hn2⟩
          case measure => simp [intOf]; omega
      · have hn2 := hnext true (by simp)
        clear hnext
        go_wp2
        go_round
        case rel => exact ⟨j + 1, true, by omega, rfl, by go_num, hn2⟩
        case measure => simp [intOf]; omega
    · have hjk : j = k := by omega
      subst hjk
      by_cases hkla : j = la
      · subst hkla
        have hfin : RightPost a n w (.returned (.tuple #[.slice none 0 0, .bool lb])) w := by
          have h1 := HLB.out
          rw [val_take_of_le (by rw [← HLA.out]; exact Nat.le_refl _), HVA.out] at h1
          have h2 : a < 2 ^ n := by
            rw [← HVA.out, pow_split n]
            have h3 := val_lt HSA.out.bd
            have h4 : BW ^ xs.length ≤ BW ^ (n / 64) := Nat.pow_le_pow_right BW_pos (by rw [← HLA.out]; have := HK.out; omega)
            have h5 : BW ^ (n / 64) ≤ BW ^ (n / 64) * 2 ^ (n % 64) := Nat.le_mul_of_pos_right _ (Nat.pow_pos (by omega))
            omega
          refine ⟨.slice none 0 0, by rw [h1, Nat.mod_eq_of_lt h2], by rw [Nat.div_eq_of_lt h2, limbs_zero]; exact OwU_nil _ _, Fr.refl _ _⟩
        have HF := Lib.hid hfin
        clear hfin
        have hz : (((j - j : Nat) : Int) == 0) = true := by simp
        by_cases hcj : ca = j
        · subst hcj
          go_wp2
          all_goals
            go_ret2
            exact HF.out
        · go_wp2
          all_goals
            go_ret2
            exact HF.out
      · have hjl : j < la := by omega
        obtain ⟨s, hs⟩ : ∃ s, s = n % 64 := ⟨_, rfl⟩
        obtain ⟨t, ht⟩ : ∃ t, t = 64 - s := ⟨_, rfl⟩
        have hs64 : s < 64 := by omega
        have ht64 : t ≤ 64 := by omega
        have e2 : (n : Int) % 64 = (s : Int) := by rw [hs]; rfl
        have r4 : (64 : Int) - (s : Int) = (t : Int) := by omega
        have hst : Hid ((2 : Nat) ^ s * 2 ^ t = BW) := Lib.hid (by rw [← Nat.pow_add, BW_pow]; congr 1; omega)
        have hjn : j = n / 64 := by have := HK.out; omega
        have HJN := Lib.hid hjn
        have HSS := Lib.hid hs
        have hcj : ¬ ca = j := by omega
        obtain ⟨m, hm⟩ : ∃ m, la - j = m := ⟨_, rfl⟩
        have hm1 : (la : Int) - (j : Int) = (m : Int) := by omega
        have hmp : 0 < m := by omega
        have h1 := HSA.out.get' (k := j) hjl
        obtain ⟨y0, hy0⟩ : ∃ y, y = xs.getD j 0 := ⟨_, rfl⟩
        rw [← hy0] at h1
        have HY0 := Lib.hid hy0
        obtain ⟨p, hp⟩ : ∃ p, p = y0 * 2 ^ t % BW := ⟨_, rfl⟩
        have r1 : IntKind.u64.wrap (↑y0 * 2 ^ t) = (p : Int) := by
          rw [show ((y0 : Int) * 2 ^ t) = ((y0 * 2 ^ t : Nat) : Int) by simp, wrapU, hp]
        -- the number, cut at its limb
        have hsplit : a = val (xs.take j) + BW ^ j * (y0 + BW * val (xs.drop (j + 1))) := by
          rw [← HVA.out]
          conv => lhs; rw [← List.take_append_drop j xs]
          rw [val_append, List.length_take, Nat.min_eq_left (by rw [← HLA.out]; omega), val_drop (by rw [← HLA.out]; omega), hy0]
        have htk : val (xs.take j) < BW ^ j := by
          have := val_lt (HSA.out.bd.take j)
          rwa [List.length_take, Nat.min_eq_left (by rw [← HLA.out]; omega)] at this
        have hmod : a % 2 ^ n = val (xs.take j) + BW ^ j * (y0 % 2 ^ s) := by
          rw [pow_split n, ← hjn, ← hs]
          conv => lhs; rw [hsplit]
          exact cut_mod hst.out htk
        have hdiv : a / 2 ^ n = val (xs.drop j) / 2 ^ s := by
          rw [pow_split n, ← hjn, ← hs, val_drop (by rw [← HLA.out]; omega), ← hy0]
          conv => lhs; rw [hsplit]
          exact cut_div htk
        have HDIV := Lib.hid hdiv
        obtain ⟨L, hL⟩ : ∃ L : Bool, L = decide (a % 2 ^ n ≠ 0) := ⟨_, rfl⟩
        have hLp : L = (lb || decide (p ≠ 0)) := by
          rw [hL, hmod, HLB.out, hp, shl_low hst.out]
          have b1 := BWk_pos j
          have b2 : 0 < 2 ^ t := Nat.pow_pos (by omega)
          by_cases q1 : val (xs.take j) = 0 <;> by_cases q2 : y0 % 2 ^ s = 0
          · simp [q1, q2]
          · have : BW ^ j * (y0 % 2 ^ s) ≠ 0 := Nat.ne_of_gt (Nat.mul_pos b1 (Nat.pos_of_ne_zero q2))
            have : (y0 % 2 ^ s) * 2 ^ t ≠ 0 := Nat.ne_of_gt (Nat.mul_pos (Nat.pos_of_ne_zero q2) b2)
            simp_all
          · simp [q1, q2]
          · simp [q1]
        have HL := Lib.hid hL
        have HLP := Lib.hid hLp
        clear hL hLp hmod hdiv hsplit htk hp hy0 ht hs hjn
        go_upto_region 11 with fail
        go_cut [7] (fun v w' => v = .bool L ∧ w' = w)
        case first =>
          cases lb
          · by_cases hp0 : p = 0
            · have t2 : ((p : Int) != 0) = false := by simp [hp0]
              have hL2 : L = false := by rw [HLP.out]; simp [hp0]
              subst hL2
              clear hp0
              go_wp2
              go_meet
              exact ⟨rfl, rfl⟩
            · have t2 : ((p : Int) != 0) = true := by simp [hp0]
              have hL2 : L = true := by rw [HLP.out]; simp [hp0]
              subst hL2
              clear hp0
              go_wp2
              go_meet
              exact ⟨rfl, rfl⟩
          · have hL2 : L = true := by rw [HLP.out]; simp
            subst hL2
            go_wp2
            go_meet
            exact ⟨rfl, rfl⟩
        case rest =>
          obtain ⟨rfl, rfl⟩ := hcut
          clear h1 r1 HLP HLB hmin
          have HY : Hid (∀ i, i < m → wc.cell? ⟨b, o + j + i, none⟩ = some (.int .u64 (((xs.drop j).getD i 0 : Nat) : Int)) ∧ (xs.drop j).getD i 0 < BW) := Lib.hid (by
            intro i hi
            have e : (xs.drop j).getD i 0 = xs.getD (j + i) 0 := by simp [List.getD]
            rw [e]
            refine ⟨?_, HSA.out.bd.getD _⟩
            rw [Nat.add_assoc]
            exact HSA.out.get' (by omega))
          have HYL : Hid ((xs.drop j).length = m) := Lib.hid (by rw [List.length_drop, ← HLA.out]; exact hm)
          have HYB : Hid (Bd (xs.drop j)) := Lib.hid (HSA.out.bd.drop j)
          clear HY0
          generalize xs.drop j = ys at *
          have hbl : b < wc.heap.size := World.block_lt_of_cell? wc _ (HY.out 0 hmp).1
          go_wp2_with (at_make; refine wp_makeU rfl _ _ rfl _ _ m rfl rfl (by omega) (by omega) (by omega) wc.heap.size (Nat.le_refl _) ?_; intro w1 hown hgrow hsz; have HO := Lib.hid hown; have HG := Lib.hid hgrow; clear hown hgrow)
          go_loopw [57] (fun iv wr => ∃ (i : Nat) (zs : List Nat), i ≤ m ∧ iv = .int .i64 (i : Int) ∧ Hid (RowU wr wc.heap.size wc.heap.size m zs) ∧ Hid (Fr [] wc wr) ∧
              Hid (val (zs.take i) + BW ^ i * (val (ys.drop i) / 2 ^ s) = val ys / 2 ^ s)) (fun i _ => m - (intOf i).toNat)
          case atStart => exact ⟨0, List.replicate m 0, by omega, rfl, Lib.hid ⟨by simp, HO.out⟩, HG, Lib.hid (by simp [val])⟩
          case round =>
            obtain ⟨i, zs, hi, rfl, HO1, HG1, HV⟩ := hrel
            clear HO HG
            by_cases hlt2 : i < m
            · have h1 : wr.cell? ⟨b, o + j + i, none⟩ = some (.int .u64 ((ys.getD i 0 : Nat) : Int)) := by
                rw [HG1.out.cell hbl (by simp)]; exact (HY.out i hlt2).1
              have hyb := (HY.out i hlt2).2
              obtain ⟨y, hy⟩ : ∃ y, y = ys.getD i 0 := ⟨_, rfl⟩
              rw [← hy] at h1 hyb
              obtain ⟨yl, hyl⟩ : ∃ yl, yl = y / 2 ^ s := ⟨_, rfl⟩
              have r5 : (y : Int) / 2 ^ s = (yl : Int) := by rw [hyl]; simp
              have hylb : yl < 2 ^ t := by
                rw [hyl, Nat.div_lt_iff_lt_mul (Nat.pow_pos (by omega)), Nat.mul_comm, hst.out]; exact hyb
              have hylB : yl < BW := by rw [hyl]; exact Nat.lt_of_le_of_lt (Nat.div_le_self _ _) hyb
              have hf := HO1.out.frozen (by omega) i
              have hq := HO1.out.cell (k := i) hlt2
              obtain ⟨q, hq'⟩ : ∃ q : Int, q = ((zs.getD i 0 : Nat) : Int) := ⟨_, rfl⟩
              rw [← hq'] at hq
              -- what the digit is
              have hdig : ∀ d, d < BW → d = yl + (val (ys.drop (i + 1)) % 2 ^ s) * 2 ^ t → Hid (val ((zs.set i d).take (i + 1)) + BW ^ (i + 1) * (val (ys.drop (i + 1)) / 2 ^ s) = val ys / 2 ^ s) := by
                intro d hd hde
                refine Lib.hid ?_
                rw [val_set_take (by rw [HO1.out.1]; omega), ← HV.out, val_drop (k := i) (by rw [HYL.out]; omega), ← hy, right_digit hst.out, ← hyl, ← hde, Nat.pow_succ, Nat.mul_add, Nat.mul_assoc]
                omega
              by_cases hlt3 : i + 1 < m
              · have h2 : wr.cell? ⟨b, o + j + (i + 1), none⟩ = some (.int .u64 ((ys.getD (i + 1) 0 : Nat) : Int)) := by
                  rw [HG1.out.cell hbl (by simp)]; exact (HY.out (i + 1) hlt3).1
                have hyb2 := (HY.out (i + 1) hlt3).2
                obtain ⟨y1, hy1⟩ : ∃ y, y = ys.getD (i + 1) 0 := ⟨_, rfl⟩
                rw [← hy1] at h2 hyb2
                obtain ⟨u, hu⟩ : ∃ u, u = y1 * 2 ^ t % BW := ⟨_, rfl⟩
                have r6 : IntKind.u64.wrap (↑y1 * 2 ^ t) = (u : Int) := by
                  rw [show ((y1 : Int) * 2 ^ t) = ((y1 * 2 ^ t : Nat) : Int) by simp, wrapU, hu]
                have hub : u < BW := by rw [hu]; exact Nat.mod_lt _ BW_pos
                obtain ⟨d, hd⟩ : ∃ d, d = yl + u := ⟨_, rfl⟩
                have r7 : bits .or .u64 (yl : Int) (u : Int) = (d : Int) := by
                  have := or_add (H := u) (Lh := yl) (s := t) (hi := y1 % 2 ^ s) (by rw [hu, shl_low hst.out]) hub hylb hylB
                  rw [hd, Nat.add_comm, ← this, bits_or_u64_nat _ _ (by rw [← BW_eq]; exact hylB) (by rw [← BW_eq]; exact hub), bits_or_u64_nat _ _ (by rw [← BW_eq]; exact hub) (by rw [← BW_eq]; exact hylB), Nat.or_comm]
                have hd2 : d < BW ∧ d = yl + (val (ys.drop (i + 1)) % 2 ^ s) * 2 ^ t := by
                  have e1 : val (ys.drop (i + 1)) % 2 ^ s = y1 % 2 ^ s := by
                    rw [val_drop (by rw [HYL.out]; omega), ← hy1, mod_low hst.out]
                  have e2 : u = (y1 % 2 ^ s) * 2 ^ t := by rw [hu, shl_low hst.out]
                  refine ⟨?_, by rw [hd, e1, e2]⟩
                  have := Nat.mul_le_mul_right (2 ^ t) (Nat.mod_lt y1 (show 0 < 2 ^ s from Nat.pow_pos (by omega)))
                  rw [Nat.succ_mul, hst.out] at this
                  omega
                have HN := hdig d hd2.1 hd2.2
                have HDB := Lib.hid hd2.1
                have HLB2 := Lib.hid hylB
                clear hd hu hy1 hyb2 hub hdig hd2 hy hyl hyb hylb hylB hq'
                go_wp2
                go_region
                all_goals go_wp2
                go_roundw
                case rel =>
                  refine ⟨i + 1, zs.set i d, by omega, by go_num, Lib.hid ?_, Lib.hid (((HG1.out.setCell (by simp) _).setCell (by simp) _).drew), HN⟩
                  have h := (HO1.out.store i yl HLB2.out).store i d HDB.out
                  rw [List.set_set] at h
                  exact h.keep ((Fr.refl [] _).drew) (by simp)
                case measure => simp [intOf]; omega
              · have hlast : Hid (i + 1 = m) := Lib.hid (by omega)
                have hz : val (ys.drop (i + 1)) = 0 := by rw [List.drop_of_length_le (by rw [HYL.out, hlast.out]; exact Nat.le_refl _)]; rfl
                have HN := hdig yl hylB (by rw [hz]; simp)
                have HLB2 := Lib.hid hylB
                clear hdig hy hyl hyb hylb hylB hq' hz
                go_wp2
                go_roundw
                case rel => exact ⟨i + 1, zs.set i yl, by omega, by go_num, Lib.hid (HO1.out.store i yl HLB2.out), Lib.hid (HG1.out.setCell (by simp) _), HN⟩
                case measure => simp [intOf]; omega
            · have him : i = m := by omega
              subst him
              have hval : val zs = a / 2 ^ n := by
                have h1 := HV.out
                rw [List.take_of_length_le (by rw [HO1.out.1]; exact Nat.le_refl _), List.drop_of_length_le (by rw [HYL.out]; exact Nat.le_refl _)] at h1
                rw [HDIV.out, ← h1]; simp [val]
              have HVV := Lib.hid hval
              have hz : Hid (zs.length = i) := Lib.hid HO1.out.1
              clear hval
              go_wp2_with (go_at_call 70; refine (trim_ow wc.heap.size _ zs _ HO1.out.2 (by rw [hz.out]; omega)).mono ?_)
              rintro e w2 ⟨v', rfl, ho, _, rfl⟩
              have HO2 := Lib.hid ho
              clear ho
              go_wp2
              go_ret2
              refine ⟨v', by rw [← HL.out]; rfl, ?_, HG1.out⟩
              rw [← HVV.out, limbs_val HO1.out.2.1]
              exact HO2.out
end Go.Proofs.YtedoeadhbcjjgaaDoor

/- Rows of the call's own with room behind, and windows in them. -/
namespace Go.Proofs.YtedoeadhbcjjgaaDoor
open Go.RowKit

/-- A row of n numbers from the head of block g on, room for c. -/
def RowX (w : World) (base g n c : Nat) (zs : List Nat) : Prop := zs.length = n ∧ OwU w base (.slice (some ⟨g, 0, none⟩) n c) zs
theorem RowX.cell {w : World} {base g n c : Nat} {zs : List Nat} (h : RowX w base g n c zs) {k : Nat} (hk : k < n) : w.cell? ⟨g, k, none⟩ = some (.int .u64 ((zs.getD k 0 : Nat) : Int)) := by
  have h1 := h.2.sl.get' (k := k) hk
  rwa [Nat.zero_add] at h1
theorem RowX.frozen {w : World} {base g n c : Nat} {zs : List Nat} (h : RowX w base g n c zs) (hn : 0 < n) (k : Nat) : w.frozen? ⟨g, k, none⟩ = false := by
  obtain ⟨rfl, h⟩ := h
  obtain ⟨_, _, e, _, _, _, _, hf⟩ := h.at_ hn
  simp only [Value.slice.injEq, Option.some.injEq, Addr.mk.injEq, and_true, true_and] at e
  obtain ⟨rfl, _⟩ := e; exact hf k
theorem RowX.store {w : World} {base g n c : Nat} {zs : List Nat} (h : RowX w base g n c zs) (k x : Nat) (hx : x < BW) : RowX (w.setCell ⟨g, k, none⟩ (.int .u64 (x : Int))) base g n c (zs.set k x) := by
  obtain ⟨rfl, h⟩ := h
  exact ⟨by simp, by simpa using h.store k x hx⟩
theorem RowX.keep {w w' : World} {base g n c : Nat} {zs : List Nat} {S : List Nat} (h : RowX w base g n c zs) (f : Fr S w w') (hg : g ∉ S) : RowX w' base g n c zs :=
  ⟨h.1, h.2.keep f (by intro k hk; simp [Value.ownBlock] at hk; subst hk; exact hg)⟩
theorem RowX.lt {w : World} {base g n c : Nat} {zs : List Nat} (h : RowX w base g n c zs) : base ≤ g ∧ g < w.heap.size := h.2.lt rfl
theorem RowX.drewN {w : World} {base g n c : Nat} {zs : List Nat} (h : RowX w base g n c zs) (k : Nat) : RowX (w.drewN k) base g n c zs := h.keep (S := []) ((Fr.refl [] w).drewN k) (by simp)

theorem getD_mid {P ws S : List Nat} {o k : Nat} (hP : P.length = o) (hk : k < ws.length) : (P ++ ws ++ S).getD (o + k) 0 = ws.getD k 0 := by
  subst hP
  simp only [List.getD, List.append_assoc]
  rw [List.getElem?_append_right (by omega), Nat.add_sub_cancel_left, List.getElem?_append_left hk]
theorem set_mid {P ws S : List Nat} {o k x : Nat} (hP : P.length = o) (hk : k < ws.length) : (P ++ ws ++ S).set (o + k) x = P ++ ws.set k x ++ S := by
  subst hP
  rw [List.append_assoc, List.set_append_right _ _ (by omega), Nat.add_sub_cancel_left, List.set_append_left _ _ hk, List.append_assoc]
theorem RowX.cellW {w : World} {base g n c o : Nat} {P ws S : List Nat} (h : RowX w base g n c (P ++ ws ++ S)) (hP : P.length = o) {k : Nat} (hk : k < ws.length) : w.cell? ⟨g, o + k, none⟩ = some (.int .u64 ((ws.getD k 0 : Nat) : Int)) := by
  have h1 := h.1
  rw [← getD_mid (S := S) hP hk]
  exact h.cell (by simp at h1; omega)
theorem RowX.storeW {w : World} {base g n c o : Nat} {P ws S : List Nat} (h : RowX w base g n c (P ++ ws ++ S)) (hP : P.length = o) {k : Nat} (hk : k < ws.length) (x : Nat) (hx : x < BW) : RowX (w.setCell ⟨g, o + k, none⟩ (.int .u64 (x : Int))) base g n c (P ++ ws.set k x ++ S) := by
  rw [← set_mid hP hk]; exact h.store _ x hx
theorem RowX.bdW {w : World} {base g n c : Nat} {P ws S : List Nat} (h : RowX w base g n c (P ++ ws ++ S)) : Bd ws := h.2.1.left.right

/-- A slice that lies in none of the written blocks. -/
theorem SlU.keepB {w w' : World} {v : Value} {xs : List Nat} {S : List Nat} (h : SlU w v xs) (f : Fr S w w') (hS : ∀ k, v.ownBlock = some k → k ∉ S) : SlU w' v xs := by
  obtain ⟨A, c, rfl, hc, hb, hx, ht⟩ := h
  refine ⟨A, c, rfl, hc, hb, fun hl => ?_, fun hl b o e => by
    obtain ⟨cs, fr, h2⟩ := ht hl b o e
    exact ⟨cs, fr, (f.block b (Array.getElem?_eq_some_iff.1 h2).1 (hS b (by rw [e]; rfl))).trans h2⟩⟩
  obtain ⟨b, o, rfl, h⟩ := hx hl
  refine ⟨b, o, rfl, fun j hj => ?_⟩
  have h0 := h j hj
  have e : (u64s xs)[j]? = some (u64s xs)[j] := by simp [hj]
  rw [e] at h0 ⊢
  rw [f.cell (World.block_lt_of_cell? w _ h0) (hS b rfl)]; exact h0
end Go.Proofs.YtedoeadhbcjjgaaDoor
