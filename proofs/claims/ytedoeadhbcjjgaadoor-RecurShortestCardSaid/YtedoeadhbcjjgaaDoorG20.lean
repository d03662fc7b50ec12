/- Joined by program (merge.py) out of 1 texts, a part of the proof: contracts of the functions that the statement reaches, and plain mathematics. No statement of the seat stands here. -/
import Derived.Test.YtedoeadhbcjjgaaDoorG19
import Derived.Test.YtedoeadhbcjjgaaDoorG01
/- recur.Term. -/
namespace Go.Proofs.YtedoeadhbcjjgaaDoor
open Go.RowKit

def TermPost (z : Int) (w : World) (e : Ending) (w' : World) : Prop := ∃ v, e = .returned (.tuple #[v, .int .i64 0]) ∧ IntO w' (w.heap.size + 1) v z ∧ Fr [] w w'

theorem rsum_len {rule row : List Int} (h1 : AllRight rule) (h2 : AllRight row) (at_ : Nat) : ∀ j, j ≤ rule.length → (limbs (rsum rule row at_ j).natAbs).length ≤ 8193 * j
  | 0, _ => by simp [rsum, limbs_zero]
  | j + 1, hj => by
    have ih := rsum_len h1 h2 at_ j (by omega)
    have hb := h1 j (by omega)
    have hr : (limbs (row.getD (at_ - 1 - j) 0).natAbs).length ≤ 4096 := by
      by_cases h : at_ - 1 - j < row.length
      · exact h2 _ h
      · rw [show row.getD (at_ - 1 - j) 0 = 0 by simp [List.getD, Nat.le_of_not_lt h]]; simp [limbs_zero]
    have hm := limbs_mul_len (rule.getD j 0).natAbs (row.getD (at_ - 1 - j) 0).natAbs
    have ha := limbs_add_len (rsum rule row at_ j).natAbs ((rule.getD j 0).natAbs * (row.getD (at_ - 1 - j) 0).natAbs)
    have hle : (rsum rule row at_ (j + 1)).natAbs ≤ (rsum rule row at_ j).natAbs + (rule.getD j 0).natAbs * (row.getD (at_ - 1 - j) 0).natAbs := by
      rw [← Int.natAbs_mul]; exact Int.natAbs_add_le _ _
    have := limbs_length_mono hle
    omega

set_option maxRecDepth 1000000 in
set_option maxHeartbeats 8000000 in
theorem term_any (va vb : Value) (first rule : List Int) (n : Nat) (w : World) (ha : SlZ w va first) (hb : SlZ w vb rule) (hl : first.length = rule.length) (hL : 0 < rule.length) (hL2 : rule.length ≤ 64) (hn : n ≤ 4096)
    (hfr : AllRight first) (hrr : AllRight rule) (hsz : ∀ k, k ≤ n → (limbs (termZ first rule k).natAbs).length ≤ 4096) :
    Calls Tryd.prog 18 #[va, vb, .int .i64 (n : Int)] w (TermPost (termZ first rule n) w) := by
  have HA := Lib.hid ha
  have HB := Lib.hid hb
  obtain ⟨A, ca, rfl, _⟩ := ha
  obtain ⟨B, cb, rfl, _⟩ := hb
  have HFR := Lib.hid hfr
  have HRR := Lib.hid hrr
  have HSZ := Lib.hid hsz
  obtain ⟨L, hLd⟩ : ∃ L, L = rule.length := ⟨_, rfl⟩
  rw [hl] at HA ⊢
  rw [← hLd] at hL hL2 HA HB ⊢
  have HLF : Hid (first.length = L) := Lib.hid (by rw [hl, hLd])
  have HLR := Lib.hid hLd
  have e0 : ((L : Int) == 0) = false := by simp; omega
  have e1 : ((L : Int) != (L : Int)) = false := by simp
  have e2 : decide ((64 : Int) < (L : Int)) = false := by simp; omega
  have e3 : decide ((4096 : Int) < (n : Int)) = false := by simp; omega
  have e4 : decide ((n : Int) < 0) = false := by simp
  have F0 : Hid (Fr [] w (w.alloc (.cells #[.bool false, .slice none 0 0] 44))) := Lib.hid ((Fr.refl [] w).alloc _)
  have HRES0 : Hid ((w.alloc (.cells #[.bool false, .slice none 0 0] 44)).heap[w.heap.size]? = some (.cells #[.bool false, .slice none 0 0] 44 (0, 0))) := Lib.hid (heap_alloc_new w _)
  clear hl hfr hrr hsz hLd
  go_enter Tryd.func18, Tryd.ntmps18
  go_wp2_with fail
  obtain ⟨w0, hw0⟩ : ∃ w0, w0 = w.alloc (.cells #[.bool false, .slice none 0 0] 44) := ⟨_, rfl⟩
  have hsz0 : w0.heap.size = w.heap.size + 1 := by rw [hw0]; simp
  rw [← hw0] at F0 HRES0 ⊢
  clear hw0
  refine (rightRow_any _ first w0 (HA.out.keep0 F0.out) HFR.out (by rw [HLF.out]; omega)).mono ?_
  rintro e w1 ⟨rfl, hf⟩
  have F1 := Lib.hid hf
  clear hf
  go_wp2_with fail
  refine (rightRow_any _ rule w1 (HB.out.keep0 (F0.out.trans0 F1.out)) HRR.out (by rw [← HLR.out]; omega)).mono ?_
  rintro e w2 ⟨rfl, hf⟩
  have F2 := Lib.hid (F1.out.trans0 hf)
  clear hf F1
  go_wp2_with fail
  refine (numbers_any _ first w2 (HA.out.keep0 (F0.out.trans0 F2.out)) HFR.out (by rw [HLF.out]; omega)).mono ?_
  rintro e w3 ⟨v1, gs, rfl, ho, hbr, hnd, hge, hf⟩
  have HO1 := Lib.hid ho
  have HB1 := Lib.hid hbr
  have F3 := Lib.hid (F2.out.trans0 hf)
  have hs23 := hf.size
  have HF23 := Lib.hid hf
  clear ho hbr hnd hge hf
  go_wp2_with fail
  refine (numbers_any _ rule w3 (HB.out.keep0 (F0.out.trans0 F3.out)) HRR.out (by rw [← HLR.out]; omega)).mono ?_
  rintro e w4 ⟨v2, hs, rfl, ho, hbr, hnd, hge, hf⟩
  have HO2 := Lib.hid ho
  have HB2 := Lib.hid hbr
  have F4 := Lib.hid (F3.out.trans0 hf)
  have HO14 := Lib.hid (HO1.out.keep0 hf)
  have HB14 := Lib.hid (HB1.out.keep0 hf)
  have hs34 := hf.size
  have hs02 := F2.out.size
  obtain ⟨A2, c2, hv2, hc2, hx2⟩ := HO2.out.open_
  have hLh : hs.length = L := by rw [HB2.out.1, ← HLR.out]
  rw [hLh] at hv2 hc2 hx2
  subst hv2
  obtain ⟨b2, rfl, hx3⟩ := hx2 hL
  have HX2 := Lib.hid hx3
  have HLH := Lib.hid hLh
  have hb2l := World.block_lt_of_cell? w4 _ (hx3 0 hL)
  obtain ⟨S0, hS0⟩ : ∃ S0, S0 = v1.ownBlock.toList := ⟨_, rfl⟩
  have HS0 : Hid (∀ k ∈ S0, w2.heap.size ≤ k ∧ k < w3.heap.size) := Lib.hid (by
    intro k hk
    rw [hS0] at hk
    exact HO1.out.lt (by simpa using hk))
  have HS0U : Hid (NotU w4 S0) := Lib.hid (by rw [hS0]; exact HO14.out.notU)
  have HS0I : Hid (∀ k ∈ S0, ¬ IntBlk w4 k) := Lib.hid (by
    intro k hk hi
    rw [hS0] at hk
    exact HO14.out.ne_int hi (by simpa using hk))
  have HB2S : Hid (b2 ∉ S0) := Lib.hid (by
    intro hm
    have h1 := (HS0.out b2 hm).2
    have h2 := (HO2.out.lt (k := b2) rfl).1
    omega)
  have HV1 : Hid (∀ k, v1.ownBlock = some k → k ∈ S0 ∨ w4.heap.size ≤ k) := Lib.hid (by
    intro k hk; left; rw [hS0, hk]; simp)
  clear ho hbr hnd hge hf HO1 HB1 hx2 hx3 hLh hS0
  go_wp2_with fail
  go_loopw [8, 10] (fun rv av wr => ∃ m t gs, L ≤ t ∧ t ≤ 5000 ∧ (L ≤ n + 1 → t ≤ n + 1) ∧ (n + 1 < L → t = L) ∧ Hid (t = L + m) ∧ av = .int .i64 (t : Int) ∧ Hid (OwP wr w2.heap.size rv gs) ∧ Hid (BigRow wr gs (rowT first rule m)) ∧ Hid (Fr S0 w4 wr) ∧ Hid (∀ k, rv.ownBlock = some k → k ∈ S0 ∨ w4.heap.size ≤ k)) (fun _ av _ => n + 1 - (intOf av).toNat)
  case atStart => exact ⟨0, L, gs, by omega, by omega, by omega, by omega, Lib.hid rfl, rfl, HO14, HB14, Lib.hid (Fr.refl _ _), HV1⟩
  case round =>
    obtain ⟨m, t, gs, hm0, hm3, hm1, hm2, HT, rfl, HO, HB, HF, HVR⟩ := hrel
    obtain ⟨wm, rfl⟩ : ∃ wm : World, wm = wr := ⟨_, rfl⟩
    have HLT : Hid (first.length + m = t) := Lib.hid (by rw [HT.out, HLF.out])
    have hlen := HB.out.1
    rw [rowT_length, HLT.out] at hlen
    obtain ⟨A8, c8, hv8, hc8, hx8⟩ := HO.out.open_
    rw [hlen] at hv8 hc8 hx8
    have HLEN := Lib.hid hlen
    have HX8 := Lib.hid hx8
    have hsm := HF.out.size
    clear hx8 hlen
    subst hv8
    obtain ⟨b8, rfl, hx8⟩ := HX8.out (by omega)
    have HXX := Lib.hid hx8
    have hb8l := World.block_lt_of_cell? wm _ (hx8 0 (by omega))
    have hb8 := (HO.out.lt (k := b8) rfl).1
    clear hx8
    by_cases hat : t ≤ n
    · have HAR : Hid (AllRight (rowT first rule m)) := Lib.hid (by
        intro i hi
        rw [rowT_length, HLT.out] at hi
        rw [rowT_at first rule (by rw [HLT.out]; exact hi)]
        exact HSZ.out i (by omega))
      go_wp2_with fail
      obtain ⟨gsum, hgs⟩ : ∃ gsum, gsum = wm.heap.size := ⟨_, rfl⟩
      obtain ⟨w5, hw5⟩ : ∃ w5, w5 = wm.alloc (.cells #[.bool false, .slice none 0 0] 38) := ⟨_, rfl⟩
      have F45 : Hid (Fr [] wm w5) := Lib.hid (by rw [hw5]; exact (Fr.refl [] wm).alloc _)
      have HS5 : Hid (BigAt w5 gsum 0) := Lib.hid (by rw [hw5, hgs]; exact BigAt_new wm)
      rw [← hgs, ← hw5]
      have hgs2 : wm.heap.size ≤ gsum := by omega
      have HGS := Lib.hid hgs
      clear hgs hw5
      go_loopw [65] (fun iv wi => ∃ i : Nat, i ≤ L ∧ iv = .int .i64 (i : Int) ∧ Hid (BigAt wi gsum (rsum rule (rowT first rule m) t i)) ∧ Hid (Fr [gsum] w5 wi)) (fun iv _ => L - (intOf iv).toNat)
      case atStart => exact ⟨0, by omega, rfl, HS5, Lib.hid (Fr.refl _ _)⟩
      case round =>
        obtain ⟨i, hi, rfl, HS, HFI⟩ := hrel
        obtain ⟨wi, rfl⟩ : ∃ wi : World, wi = wr := ⟨_, rfl⟩
        have FWi : Hid (Fr [] wm wi) := Lib.hid (F45.out.own1 HFI.out hgs2)
        by_cases hiL : i = L
        · have hiL' := hiL.symm
          subst hiL'
          have hNx : (rowT first rule m ++ [rsum rule (rowT first rule m) t L]) = rowT first rule (m + 1) := by
            rw [rowT, HLT.out, ← HLR.out]
          have hzt : rsum rule (rowT first rule m) t L = termZ first rule t := by
            rw [← rowT_at first rule (m := m + 1) (k := t) (by rw [← HLT.out]; omega), ← hNx, getD_app_eq (by rw [rowT_length, HLT.out])]
          have hzl := HSZ.out t hat
          rw [← hzt] at hzl
          obtain ⟨z, hz⟩ : ∃ z, z = rsum rule (rowT first rule m) t L := ⟨_, rfl⟩
          rw [← hz] at HS hNx hzl
          have HNX := Lib.hid hNx
          have hbt := (enough_bits z.natAbs).2
          obtain ⟨bb, hbb⟩ : ∃ bb, bb = bitsOf z.natAbs := ⟨_, rfl⟩
          rw [← hbb] at hbt
          have eb : decide ((262144 : Int) < (bb : Int)) = false := by simp; omega
          have HBL := Lib.hid (bitLen_any gsum z wi HS.out (by omega))
          unfold SizePost at HBL
          rw [← hbb] at HBL
          have HOi := Lib.hid (HO.out.keep0 FWi.out)
          have HBi := Lib.hid (HB.out.keep0 FWi.out)
          have HF4i := Lib.hid (HF.out.trans0 FWi.out)
          have hszi := FWi.out.size
          have HT1 : Hid (t + 1 = L + (m + 1)) := Lib.hid (by rw [HT.out]; omega)
          clear hz hzt hNx hzl hbt hbb hiL hi
          go_wp2_with (first
            | (go_at_call 36; refine HBL.out.mono ?_; rintro e w' ⟨rfl, rfl⟩)
            | (at_builtin; refine wp_appendP rfl _ _ rfl w2.heap.size (.slice (some ⟨b8, 0, none⟩) t c8) gs rfl (HOi.out.keep0 ((Fr.refl [] wi).alloc _)) wi.heap.size 1 gsum rfl (by simp [World.cell?_alloc_new]) (by rw [HLEN.out]; omega) (by simp; omega) ?_; intro v' w6 ho hfr hat6; have HO6 := Lib.hid ho; have HFR : Hid (Fr [b8] (wi.alloc (.cells #[.pointer (some ⟨gsum, 0, none⟩)] 35)) w6) := Lib.hid (by exact hfr); have HAT : Hid (v'.ownBlock = some b8 ∨ v'.ownBlock = some (wi.heap.size + 1)) := Lib.hid (hat6.elim (fun h => .inl h) (fun h => .inr (h.trans (by simp)))); clear ho hfr hat6))
          have HNU : Hid (NotU (wi.alloc (.cells #[.pointer (some ⟨gsum, 0, none⟩)] 35)) [b8]) := Lib.hid (HOi.out.keep0 ((Fr.refl [] wi).alloc _)).notU
          have HBB : Hid (BigRow w6 (gs ++ [gsum]) (rowT first rule (m + 1))) := Lib.hid (by
            rw [← HNX.out]
            have hb1 := (HBi.out.snoc HS.out).keep0 ((Fr.refl [] wi).alloc (.cells #[.pointer (some ⟨gsum, 0, none⟩)] 35))
            refine hb1.keepT HFR.out HNU.out (fun x hx hm => ?_)
            simp only [List.mem_singleton] at hm
            exact (HOi.out.keep0 ((Fr.refl [] wi).alloc _)).ne_int (hb1.ints hx) (by rw [hm]; rfl))
          go_roundw
          case rel => exact ⟨m + 1, t + 1, gs ++ [gsum], by omega, by omega, by omega, by omega, HT1, by go_num, HO6, HBB, Lib.hid ((HF4i.out.alloc _).trans HFR.out (by
            intro x hx hlt
            simp only [List.mem_singleton] at hx
            rcases HVR.out b8 rfl with h | h
            · rw [hx]; exact h
            · omega)), Lib.hid (by
            intro k hk
            rcases HAT.out with h | h
            · rw [h] at hk; exact HVR.out k hk
            · right; rw [h] at hk; simp at hk; omega)⟩
          case measure => simp [intOf]; omega
        · have hi2 : i < L := by omega
          have hcb := HX2.out i hi2
          have hcb2 : wi.cell? ⟨b2, i, none⟩ = some (.pointer (some ⟨hs.getD i 0, 0, none⟩)) := ((HF.out.trans0 FWi.out).cell (p := ⟨b2, i, none⟩) hb2l HB2S.out).trans hcb
          have hcr := HXX.out (t - 1 - i) (by omega)
          have hcr2 : wi.cell? ⟨b8, t - 1 - i, none⟩ = some (.pointer (some ⟨gs.getD (t - 1 - i) 0, 0, none⟩)) := (FWi.out.cell (p := ⟨b8, t - 1 - i, none⟩) (World.block_lt_of_cell? wm _ hcr) (by simp)).trans hcr
          have hbr := HB2.out.2 i (by rw [HLH.out]; exact hi2)
          have hbw := HB.out.2 (t - 1 - i) (by rw [HLEN.out]; omega)
          have hl1 := HRR.out i (by rw [← HLR.out]; exact hi2)
          have hl2 := HAR.out (t - 1 - i) (by rw [rowT_length, HLT.out]; omega)
          have hl3 := rsum_len HRR.out HAR.out t i (by rw [← HLR.out]; omega)
          have hnx : rsum rule (rowT first rule m) t (i + 1) = rsum rule (rowT first rule m) t i + rule.getD i 0 * (rowT first rule m).getD (t - 1 - i) 0 := rfl
          have hmul := limbs_mul_len (rule.getD i 0).natAbs ((rowT first rule m).getD (t - 1 - i) 0).natAbs
          obtain ⟨p, hp⟩ : ∃ p, p = hs.getD i 0 := ⟨_, rfl⟩
          obtain ⟨q, hq⟩ : ∃ q, q = gs.getD (t - 1 - i) 0 := ⟨_, rfl⟩
          obtain ⟨x, hx⟩ : ∃ x, x = rule.getD i 0 := ⟨_, rfl⟩
          obtain ⟨y, hy⟩ : ∃ y, y = (rowT first rule m).getD (t - 1 - i) 0 := ⟨_, rfl⟩
          obtain ⟨sm, hsm'⟩ : ∃ sm, sm = rsum rule (rowT first rule m) t i := ⟨_, rfl⟩
          rw [← hp] at hcb2 hbr
          rw [← hq] at hcr2 hbw
          rw [← hx] at hbr hl1 hnx hmul
          rw [← hy] at hbw hl2 hnx hmul
          rw [← hsm'] at hl3 hnx HS
          have HNX := Lib.hid hnx
          have HPX : Hid (BigAt wi p x) := Lib.hid (hbr.keepT (HF.out.trans0 FWi.out) HS0U.out (fun hm => HS0I.out p hm hbr.blk))
          have hb8i : b8 < wi.heap.size := Nat.lt_of_lt_of_le hb8l FWi.out.size
          have hb2i : b2 < wi.heap.size := World.block_lt_of_cell? wi _ hcb2
          have HQY := Lib.hid (hbw.keep0 FWi.out)
          have HLL : Hid ((limbs x.natAbs).length ≤ 4096 ∧ (limbs y.natAbs).length ≤ 4096 ∧ (limbs sm.natAbs).length ≤ 1000000 ∧ (limbs (x * y).natAbs).length ≤ 10000) := Lib.hid ⟨hl1, hl2, by omega, by rw [Int.natAbs_mul]; omega⟩
          obtain ⟨ix, hix⟩ : ∃ ix, ix = t - 1 - i := ⟨_, rfl⟩
          rw [← hix] at hcr2
          have hixb : ix < t := by omega
          have r1 : (t : Int) - 1 - i = (ix : Int) := by omega
          clear hcb hcr hbr hbw hl1 hl2 hl3 hnx hmul hp hq hx hy hsm' hiL hix
          go_wp2_with fail
          have FA : Hid (Fr [] wi (wi.alloc (.cells #[.bool false, .slice none 0 0] 38))) := Lib.hid ((Fr.refl [] wi).alloc _)
          refine (mul_any wi.heap.size p q x y _ (BigAt_new wi).blk (HPX.out.keep0 FA.out) (HQY.out.keep0 FA.out) (by have := HLL.out; omega) (by have := HLL.out; omega)).mono ?_
          rintro e w7 ⟨rfl, hb, hf⟩
          have HM7 := Lib.hid hb
          have F7 : Hid (Fr [] wi w7) := Lib.hid (FA.out.own1 hf (Nat.le_refl _))
          have HS7 := Lib.hid (HS.out.keep0 F7.out)
          clear hb hf FA
          go_wp2_with fail
          refine (add_any gsum gsum wi.heap.size sm (x * y) _ HS7.out.blk HS7.out HM7.out (by have := HLL.out; omega) (by have := HLL.out; omega)).mono ?_
          rintro e w8 ⟨rfl, hb, hf⟩
          rw [← HNX.out] at hb
          have HS8 := Lib.hid hb
          have HF8 : Hid (Fr [gsum] w5 w8) := Lib.hid ((HFI.out.trans0 F7.out).trans hf (by simp))
          clear hb hf
          go_wp2_with fail
          go_roundw
          case rel => exact ⟨i + 1, by omega, by go_num, HS8, HF8⟩
          case measure => simp [intOf]; omega
    · have hnt : n < t := by omega
      have hcr := HXX.out n hnt
      have hbw := HB.out.2 n (by rw [HLEN.out]; omega)
      rw [rowT_at first rule (by rw [HLT.out]; exact hnt)] at hbw
      have hzl := HSZ.out n (Nat.le_refl _)
      obtain ⟨q, hq⟩ : ∃ q, q = gs.getD n 0 := ⟨_, rfl⟩
      rw [← hq] at hcr hbw
      obtain ⟨z, hz⟩ : ∃ z, z = termZ first rule n := ⟨_, rfl⟩
      rw [← hz] at hbw hzl
      have HZZ := Lib.hid hz
      have HC := Lib.hid (told_any q z wm hbw hzl)
      have F0m : Hid (Fr [] w0 wm) := Lib.hid (F4.out.trans HF.out (by intro x hx hlt; have := (HS0.out x hx).1; omega))
      have hsz0m := F0m.out.size
      clear hq hbw hzl hat hz
      go_wp2_with fail
      refine HC.out.mono ?_
      rintro e w5 ⟨v5, rfl, hv, hf⟩
      obtain ⟨A5, n5, c5, rfl, ho⟩ := hv
      have HO5 := Lib.hid ho
      have F05 : Hid (Fr [] w0 w5) := Lib.hid (F0m.out.trans0 hf)
      have HRES : Hid (w5.heap[w.heap.size]? = some (.cells #[.bool false, .slice none 0 0] 44 (0, 0))) := Lib.hid ((F05.out.block w.heap.size (by omega) (by simp)).trans HRES0.out)
      have hlt5 := (Array.getElem?_eq_some_iff.1 HRES.out).1
      have c0 := cell_of_row w5 w.heap.size 0 _ _ _ HRES.out
      have c1 := cell_of_row w5 w.heap.size 1 _ _ _ HRES.out
      have fz : ∀ j, w5.frozen? ⟨w.heap.size, j, none⟩ = false := fun j => frozen_of_row w5 w.heap.size j _ _ HRES.out
      simp only [List.getElem?_toArray, List.getElem?_cons_zero, List.getElem?_cons_succ] at c0 c1
      clear ho hf
      go_wp2_with fail
      have F6 : Fr [w.heap.size] w5 _ := ((((Fr.refl [w.heap.size] w5).setCell (p := ⟨w.heap.size, 0, none⟩) (by simp) (.bool (decide (z < 0)))).setCell (p := ⟨w.heap.size, 1, none⟩) (by simp) (.slice A5 n5 c5)).alloc (.cells #[.bool (decide (z < 0)), .slice A5 n5 c5] 44))
      exact bodyPost_ret (v := .tuple #[.agg #[.bool (decide (z < 0)), .slice A5 n5 c5], .int .i64 0]) (by simp [results, Tryd.results18, go_sem, c0, c1, fz, hlt5, World.cell?_alloc_past]) rfl ⟨_, rfl, ⟨A5, n5, c5, by rw [← HZZ.out], by rw [← HZZ.out]; exact (HO5.out.base_le (by omega)).keep F6 (by intro k hk; have := (HO5.out.lt hk).1; simp; omega)⟩, (F0.out.trans0 F05.out).own1 F6 (Nat.le_refl _)⟩
end Go.Proofs.YtedoeadhbcjjgaaDoor
