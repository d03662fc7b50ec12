/- Joined by program (merge.py) out of 1 texts, a part of the proof: contracts of the functions that the statement reaches, and plain mathematics. No statement of the seat stands here. -/
import Derived.Test.YtedoeadhbcjjgaaDoorG06
import Derived.Test.YtedoeadhbcjjgaaDoorG01
/- big.digit: the walk. -/
namespace Go.Proofs.YtedoeadhbcjjgaaDoor
open Go.RowKit

def DigitPost (base g N c : Nat) (P S : List Nat) (m W V : Nat) (w : World) (e : Ending) (w' : World) : Prop :=
  e = .returned (.int .u64 ((W / V : Nat) : Int)) ∧ W / V < BW ∧ (∃ ws', ws'.length = m + 1 ∧ RowX w' base g N c (P ++ ws' ++ S) ∧ val ws' = W % V) ∧ Fr [g] w w'

set_option maxRecDepth 100000 in
set_option maxHeartbeats 8000000 in
theorem digit_any (base g N c o m cu : Nat) (P ws S vs : List Nat) (vv : Value) (w : World) (hm : 0 < m) (hmb : m ≤ 100000000000) (hob : o ≤ 100000000000) (hP : P.length = o) (hws : ws.length = m + 1) (hvl : vs.length = m)
    (hrow : RowX w base g N c (P ++ ws ++ S)) (hv : SlU w vv vs) (hne : ∀ k, vv.ownBlock = some k → k ≠ g) (hlt : val ws < BW * val vs) (htop : vs.getD (m - 1) 0 ≠ 0) :
    Calls Tryd.prog 74 #[.slice (some ⟨g, o, none⟩) (m + 1) cu, vv] w (DigitPost base g N c P S m (val ws) (val vs) w) := by
  obtain ⟨B, cb, rfl, _⟩ := hv.open_
  rw [hvl] at hv ⊢
  have HVS := Lib.hid hv
  have HROW := Lib.hid hrow
  have HNE := Lib.hid hne
  have HP := Lib.hid hP
  have HWS := Lib.hid hws
  have HVL := Lib.hid hvl
  have HLT := Lib.hid hlt
  have HVP : Hid (0 < val vs) := Lib.hid (by
    rcases Nat.eq_zero_or_pos (val vs) with h | h
    · rw [h] at hlt; simp at hlt
    · exact h)
  obtain ⟨bb, ob, rfl, hvt⟩ := hv.get (k := m - 1) (by omega)
  obtain ⟨vt, hvtd⟩ : ∃ vt, vt = vs.getD (m - 1) 0 := ⟨_, rfl⟩
  rw [← hvtd] at hvt htop
  have hvtb : vt < BW := by rw [hvtd]; exact hv.bd.getD _
  have hu0 := hrow.cellW (o := o) hP (k := m) (by omega)
  have hu1 := hrow.cellW (o := o) hP (k := m - 1) (by omega)
  obtain ⟨ut, hut⟩ : ∃ ut, ut = ws.getD m 0 := ⟨_, rfl⟩
  obtain ⟨ul, hul⟩ : ∃ ul, ul = ws.getD (m - 1) 0 := ⟨_, rfl⟩
  rw [← hut] at hu0
  rw [← hul] at hu1
  have hutb : ut < BW := by rw [hut]; exact hrow.bdW.getD _
  have hulb : ul < BW := by rw [hul]; exact hrow.bdW.getD _
  obtain ⟨Q, hQ⟩ : ∃ Q, Q = val ws / val vs := ⟨_, rfl⟩
  have hQB : Q < BW := by rw [hQ, Nat.div_lt_iff_lt_mul HVP.out]; exact hlt
  -- the two highest digits' guess
  have hgs : Q ≤ (ut * BW + ul) / vt := by
    have e1 : val ws = val (ws.take (m - 1)) + BW ^ (m - 1) * (ul + BW * ut) := by
      have h1 : val ws = val (ws.take (m + 1)) := by rw [List.take_of_length_le (by omega)]
      rw [h1, val_take_succ, ← hut]
      have h2 := val_take_succ ws (m - 1)
      rw [show m - 1 + 1 = m by omega] at h2
      rw [h2, ← hul, Nat.mul_add, ← Nat.mul_assoc, ← Nat.pow_succ, show (m - 1).succ = m by omega]
      omega
    have e2 : val vs = val (vs.take (m - 1)) + BW ^ (m - 1) * vt := by
      have h1 : val vs = val (vs.take m) := by rw [List.take_of_length_le (by omega)]
      have h2 := val_take_succ vs (m - 1)
      rw [show m - 1 + 1 = m by omega] at h2
      rw [h1, h2, ← hvtd]
    have h3 := val_lt (hrow.bdW.take (m - 1))
    rw [List.length_take, Nat.min_eq_left (by omega)] at h3
    rw [hQ]; exact guess_ge e1 h3 e2 (by omega) (BWk_pos _)
  have HGS := Lib.hid hgs
  have HQ := Lib.hid hQ
  have HQB := Lib.hid hQB
  have HUB : Hid (ul < BW ∧ vt < BW) := Lib.hid ⟨hulb, hvtb⟩
  clear hv hrow hne hP hws hvl hlt hvtd hut hul hutb hulb hvtb hQ hQB hgs
  go_enter Tryd.func74, Tryd.ntmps74
  go_wp2_with fail
  go_quiet (fail)
  obtain ⟨wa, hwa⟩ : ∃ wa, wa = w.drewN nq := ⟨_, rfl⟩
  have HROWa : Hid (RowX wa base g N c (P ++ ws ++ S)) := Lib.hid (by rw [hwa]; exact HROW.out.drewN nq)
  have HVSa : Hid (SlU wa (.slice (some ⟨bb, ob, none⟩) m cb) vs) := Lib.hid (by rw [hwa]; exact HVS.out.keep0 ((Fr.refl [] w).drewN nq))
  have HFa : Hid (Fr [g] w wa) := Lib.hid (by rw [hwa]; exact (Fr.refl [g] w).drewN nq)
  rw [show w.cell? = wa.cell? by rw [hwa]; rfl] at hvt hu0 hu1
  rw [← hwa]
  have HWA := Lib.hid hwa
  clear hwa HROW HVS
  go_upto_if 28 with (fail)
  go_cut [6] (fun v w' => ∃ q nd : Nat, v = .int .u64 (q : Int) ∧ Hid (Q ≤ q ∧ q < BW) ∧ w' = wa.drewN nd)
  case first =>
    by_cases hc : ut < vt
    · have hq : (ut * BW + ul) / vt < BW := by
        rw [Nat.div_lt_iff_lt_mul (by omega)]
        have h2 : (ut + 1) * BW ≤ vt * BW := Nat.mul_le_mul_right _ hc
        rw [Nat.add_mul] at h2
        have := HUB.out.1
        rw [Nat.mul_comm BW vt]; omega
      have HQ2 := Lib.hid hq
      clear hq
      go_wp2_with fail
      go_quiet ((go_at_call 88; exact Calls.quiet_of (div64_any ut ul vt _ hc HUB.out.2 HUB.out.1)))
      go_wp2
      go_meet
      exact ⟨_, _, rfl, Lib.hid ⟨HGS.out, HQ2.out⟩, rfl⟩
    · go_wp2
      go_meet
      exact ⟨BW - 1, 0, by rw [BW_eq]; rfl, Lib.hid ⟨by have := HQB.out; omega, by rw [BW_eq]; omega⟩, rfl⟩
  case rest =>
    obtain ⟨q, nd, rfl, HQQ, rfl⟩ := hcut
    obtain ⟨wd, hwd⟩ : ∃ wd, wd = wa.drewN nd := ⟨_, rfl⟩
    have HROWd : Hid (RowX wd base g N c (P ++ ws ++ S)) := Lib.hid (by rw [hwd]; exact HROWa.out.drewN nd)
    have HVSd : Hid (SlU wd (.slice (some ⟨bb, ob, none⟩) m cb) vs) := Lib.hid (by rw [hwd]; exact HVSa.out.keep0 ((Fr.refl [] wa).drewN nd))
    have HFd : Hid (Fr [g] w wd) := Lib.hid (by rw [hwd]; exact HFa.out.drewN nd)
    rw [← hwd]
    clear hwd hvt hu0 hu1 HROWa HVSa HFa HWA HGS HUB htop vt ut ul
    have HKV : Hid (∀ wr, Fr [g] wd wr → SlU wr (.slice (some ⟨bb, ob, none⟩) m cb) vs) := Lib.hid (fun wr f => HVSd.out.keepB f (by
      intro k hk; simp only [List.mem_singleton]; rw [HVL.out] at HNE; exact HNE.out k hk))
    go_wp2_with fail
    go_loopw [7, 8, 49] (fun bv cv kv wr => ∃ (k b cy : Nat) (us : List Nat), k ≤ m ∧ b ≤ 1 ∧ Hid (cy < BW) ∧ bv = .int .u64 (b : Int) ∧ cv = .int .u64 (cy : Int) ∧ kv = .int .i64 (k : Int) ∧ Hid (us.length = m + 1) ∧
        Hid (RowX wr base g N c (P ++ us ++ S)) ∧ Hid (Fr [g] wd wr) ∧ Hid (∀ j, k ≤ j → us.getD j 0 = ws.getD j 0) ∧ Hid (val (us.take k) + q * val (vs.take k) = val (ws.take k) + BW ^ k * (cy + b))) (fun _ _ k _ => m - (intOf k).toNat)
    case atStart => exact ⟨0, 0, 0, ws, by omega, by omega, Lib.hid BW_pos, rfl, rfl, rfl, HWS, HROWd, Lib.hid (Fr.refl _ _), Lib.hid (fun _ _ => rfl), Lib.hid (by simp [val])⟩
    case round =>
      obtain ⟨k, b, cy, us, hk, hb, HCY, rfl, rfl, rfl, HUL, HR1, HG1, HU, HV⟩ := hrel
      by_cases hlt : k < m
      · as_aux_lemma =>
        have h2 := (HKV.out wr HG1.out).get' (k := k) hlt
        obtain ⟨y, hy⟩ : ∃ y, y = vs.getD k 0 := ⟨_, rfl⟩
        rw [← hy] at h2
        have HYB : Hid (y < BW) := Lib.hid (by rw [hy]; exact HVSd.out.bd.getD k)
        have HY := Lib.hid hy
        have hq := HR1.out.cellW (o := o) HP.out (k := k) (by rw [HUL.out]; omega)
        have hf := HR1.out.frozen (by have := HR1.out.1; simp at this; rw [HUL.out] at this; omega) (o + k)
        obtain ⟨z, hz⟩ : ∃ z, z = us.getD k 0 := ⟨_, rfl⟩
        rw [← hz] at hq
        have HZB : Hid (z < BW) := Lib.hid (by rw [hz]; exact HR1.out.bdW.getD _)
        have HZ : Hid (z = ws.getD k 0) := Lib.hid (by rw [hz]; exact HU.out _ (Nat.le_refl _))
        clear hz hy
        -- the product's limb, what is carried
        have hm1 := mul_eq q y
        have hm2 := add_eq (mulL q y) cy 0
        have hmul := fun W => mul64_any q y HQQ.out.2 HYB.out W
        have hadd1 := fun W => add64_run (mulL q y) cy 0 (by omega) W
        have hlo := addS_lt (mulL q y) cy 0
        have hcyb : mulH q y + addC (mulL q y) cy 0 < BW := by
          have hb1 : q * y ≤ (BW - 1) * (BW - 1) := Nat.mul_le_mul (by have := HQQ.out.2; omega) (by have := HYB.out; omega)
          have hb2 : (BW - 1) * (BW - 1) + 2 * (BW - 1) + 1 = BW * BW := by rw [BW_eq]
          have hcy := HCY.out
          have h4 : BW * (mulH q y + addC (mulL q y) cy 0) < BW * BW := by rw [Nat.mul_add]; omega
          exact Nat.lt_of_mul_lt_mul_left h4
        generalize addS (mulL q y) cy 0 = lo at *
        generalize addC (mulL q y) cy 0 = c1 at *
        generalize mulL q y = l0 at *
        generalize mulH q y = h0 at *
        have hsub := fun W => sub64_run z lo b hb W
        have hsb := subB_le z lo b
        have hss := subS_lt z lo b
        have hse := sub_eq (x := z) (y := lo) (b := b) HZB.out hlo hb
        generalize subS z lo b = z' at *
        generalize subB z lo b = b' at *
        have HMUL := Lib.hid hmul
        have HPR : Hid (lo + BW * (h0 + c1) = q * y + cy) := Lib.hid (by rw [Nat.mul_add]; omega)
        have HSE := Lib.hid hse
        have HSS := Lib.hid hss
        have HCB := Lib.hid hcyb
        rw [BW_eq] at hcyb
        have hadd1' : ∀ W, (callFunc 77 #[.int .u64 (l0 : Int), .int .u64 (cy : Int), .int .u64 0]).run Tryd.prog W = .ok (.value (.tuple #[.int .u64 (lo : Int), .int .u64 (c1 : Int)])) W := hadd1
        clear hadd1 hmul hm1 hm2 hlo hse hss
        go_wp2_with (go_at_call 76; refine (HMUL.out _).mono ?_; rintro e w' ⟨rfl, rfl⟩)
        go_roundw
        case rel =>
          refine ⟨k + 1, b', h0 + c1, us.set k z', by omega, hsb, HCB, rfl, by simp, by go_num, Lib.hid (by rw [List.length_set]; exact HUL.out), Lib.hid (HR1.out.storeW HP.out (by rw [HUL.out]; omega) z' HSS.out), Lib.hid (HG1.out.setCell (by simp) _), Lib.hid ?_, Lib.hid ?_⟩
          · intro j hj; rw [getD_set_ne (by omega)]; exact HU.out j (by omega)
          · rw [val_set_take (by rw [HUL.out]; omega), val_take_succ ws, val_take_succ vs, ← HZ.out, ← HY.out, Nat.pow_succ]
            exact sub_step HPR.out HSE.out HV.out
        case measure => simp [intOf]; omega
      · have hkm : k = m := by omega
        subst hkm
        clear hk hlt
        have hl0 : 0 < N := by have := HR1.out.1; simp at this; rw [HUL.out] at this; omega
        have hq := HR1.out.cellW (o := o) HP.out (k := k) (by rw [HUL.out]; omega)
        have hf := HR1.out.frozen hl0 (o + k)
        obtain ⟨z, hz⟩ : ∃ z, z = us.getD k 0 := ⟨_, rfl⟩
        rw [← hz] at hq
        have hzb : z < BW := by rw [hz]; exact HR1.out.bdW.getD _
        have hzw : z = ws.getD k 0 := by rw [hz]; exact HU.out _ (Nat.le_refl _)
        have hsub := fun W => sub64_run z cy b hb W
        have hsb := subB_le z cy b
        have hss := subS_lt z cy b
        have hse := sub_eq (x := z) (y := cy) (b := b) hzb HCY.out hb
        generalize subS z cy b = z' at *
        generalize subB z cy b = b' at *
        have hW : val (ws.take (k + 1)) = val ws := by rw [List.take_of_length_le (by rw [HWS.out]; exact Nat.le_refl _)]
        have hV : val (vs.take k) = val vs := by rw [List.take_of_length_le (by rw [HVL.out]; exact Nat.le_refl _)]
        have hA : val (us.set k z') + q * val vs = val ws + BW ^ (k + 1) * b' := by
          have h1 := val_set_take (xs := us) (k := k) (s := z') (by rw [HUL.out]; omega)
          rw [List.take_of_length_le (by rw [List.length_set, HUL.out]; exact Nat.le_refl _)] at h1
          have h2 := sub_top hse HV.out
          rw [← h1, hV, hzw, ← val_take_succ, hW, ← Nat.pow_succ] at h2
          exact h2
        have HA := Lib.hid hA
        have HROW2 := Lib.hid (HR1.out.storeW HP.out (k := k) (by rw [HUL.out]; omega) z' hss)
        have HF2 := Lib.hid (HG1.out.setCell (p := ⟨g, o + k, none⟩) (by simp) (.int .u64 (z' : Int)))
        clear hz hzb hzw hse hss hW hV hA
        go_wp2_with fail
        go_loopw [6, 7] (fun qv bv wr => ∃ (q b : Nat) (us : List Nat), Hid (Q ≤ q) ∧ q < 18446744073709551616 ∧ b ≤ 1 ∧ qv = .int .u64 (q : Int) ∧ bv = .int .u64 (b : Int) ∧ Hid (us.length = k + 1) ∧
            Hid (RowX wr base g N c (P ++ us ++ S)) ∧ Hid (Fr [g] wd wr) ∧ Hid (val us + q * val vs = val ws + BW ^ (k + 1) * b)) (fun qv _ _ => (intOf qv).toNat)
        case atStart => exact ⟨q, b', us.set k z', Lib.hid HQQ.out.1, by have := HQQ.out.2; rw [BW_eq] at this; exact this, hsb, rfl, rfl, Lib.hid (by rw [List.length_set]; exact HUL.out), HROW2, HF2, HA⟩
        case round =>
          clear HR1 HG1 HU HV HA HROW2 HF2 HUL HCY hsub hsb hq hf hb
          obtain ⟨q1, b1, us1, HQ1, hq1, hb1, rfl, rfl, HUL, HR1, HG1, HA⟩ := hrel
          obtain ⟨wo, rfl⟩ : ∃ wo : World, wo = wr := ⟨_, rfl⟩
          by_cases hb0 : b1 = 0
          · as_aux_lemma =>
            subst hb0
            have hfin := digit_stop (W := val ws) (q := q1) (R := val us1) (V := val vs) (by have h := HA.out; rw [Nat.mul_zero, Nat.add_zero] at h; exact h) HVP.out (by rw [← HQ.out]; exact HQ1.out)
            have HFIN := Lib.hid hfin
            clear hfin
            go_wp2
            go_ret
            refine ⟨by rw [← HFIN.out.1]; rfl, by rw [← HQ.out]; exact HQB.out, ⟨us1, HUL.out, HR1.out, HFIN.out.2⟩, HFd.out.trans HG1.out (by simp)⟩
          · have hb11 : b1 = 1 := by omega
            subst hb11
            have hmore := digit_more (W := val ws) (q := q1) (R := val us1) (V := val vs) (p := BW ^ (k + 1)) (by have := val_lt HR1.out.bdW; rwa [HUL.out] at this) (by have h := HA.out; rw [Nat.mul_one] at h; exact h) HVP.out
            have HM : Hid (Q ≤ q1 - 1) := Lib.hid (Nat.le_sub_one_of_lt (by rw [HQ.out]; exact hmore))
            have hq1p : 1 ≤ q1 := Nat.le_trans (Nat.le_add_left 1 _) hmore
            clear hmore hb0
            go_wp2_with fail
            go_loopw [14, 102] (fun cv jv wr => ∃ (j c' : Nat) (us : List Nat), j ≤ k ∧ c' ≤ 1 ∧ cv = .int .u64 (c' : Int) ∧ jv = .int .i64 (j : Int) ∧ Hid (us.length = k + 1) ∧ Hid (RowX wr base g N c (P ++ us ++ S)) ∧ Hid (Fr [g] wd wr) ∧
                Hid (∀ i, j ≤ i → us.getD i 0 = us1.getD i 0) ∧ Hid (val (us.take j) + BW ^ j * c' = val (us1.take j) + val (vs.take j))) (fun _ j _ => k - (intOf j).toNat)
            case atStart => exact ⟨0, 0, us1, by omega, by omega, rfl, rfl, HUL, HR1, HG1, Lib.hid (fun _ _ => rfl), Lib.hid (by simp [val])⟩
            case round =>
              obtain ⟨j, c', us2, hj, hc', rfl, rfl, HUL2, HR2, HG2, HU2, HV2⟩ := hrel
              by_cases hlt : j < k
              · as_aux_lemma =>
                have h2 := (HKV.out wr HG2.out).get' (k := j) hlt
                obtain ⟨y, hy⟩ : ∃ y, y = vs.getD j 0 := ⟨_, rfl⟩
                rw [← hy] at h2
                have hyb : y < BW := by rw [hy]; exact HVSd.out.bd.getD j
                have HY := Lib.hid hy
                have hq := HR2.out.cellW (o := o) HP.out (k := j) (by rw [HUL2.out]; omega)
                have hf := HR2.out.frozen hl0 (o + j)
                obtain ⟨z, hz⟩ : ∃ z, z = us2.getD j 0 := ⟨_, rfl⟩
                rw [← hz] at hq
                have hzb : z < BW := by rw [hz]; exact HR2.out.bdW.getD _
                have HZ : Hid (z = us1.getD j 0) := Lib.hid (by rw [hz]; exact HU2.out _ (Nat.le_refl _))
                have hadd := fun W => add64_run z y c' hc' W
                have hac := addC_le hzb hyb hc'
                have hal := addS_lt z y c'
                have hae := add_eq z y c'
                generalize addS z y c' = z2 at *
                generalize addC z y c' = c2 at *
                have HAE := Lib.hid hae
                have HAL := Lib.hid hal
                clear hz hy hzb hyb hae hal
                go_wp2
                go_roundw
                case rel =>
                  refine ⟨j + 1, c2, us2.set j z2, by omega, hac, rfl, by go_num, Lib.hid (by rw [List.length_set]; exact HUL2.out), Lib.hid (HR2.out.storeW HP.out (by rw [HUL2.out]; omega) z2 HAL.out), Lib.hid (HG2.out.setCell (by simp) _), Lib.hid ?_, Lib.hid ?_⟩
                  · intro i hi; rw [getD_set_ne (by omega)]; exact HU2.out i (by omega)
                  · rw [val_set_take (by rw [HUL2.out]; omega), val_take_succ us1, val_take_succ vs, ← HZ.out, ← HY.out, Nat.pow_succ]
                    exact plus_step HAE.out HV2.out
                case measure => simp [intOf]; omega
              · as_aux_lemma =>
                have hjk : j = k := by omega
                subst hjk
                have hq := HR2.out.cellW (o := o) HP.out (k := j) (by rw [HUL2.out]; omega)
                have hf := HR2.out.frozen hl0 (o + j)
                obtain ⟨z, hz⟩ : ∃ z, z = us2.getD j 0 := ⟨_, rfl⟩
                rw [← hz] at hq
                have hzb : z < BW := by rw [hz]; exact HR2.out.bdW.getD _
                have hzw : z = us1.getD j 0 := by rw [hz]; exact HU2.out _ (Nat.le_refl _)
                have hadd : ∀ W, (callFunc 77 #[.int .u64 (z : Int), .int .u64 0, .int .u64 (c' : Int)]).run Tryd.prog W = .ok (.value (.tuple #[.int .u64 ((addS z 0 c' : Nat) : Int), .int .u64 ((addC z 0 c' : Nat) : Int)])) W := fun W => add64_run z 0 c' hc' W
                have hac := addC_le hzb BW_pos hc'
                have hal := addS_lt z 0 c'
                have hae := add_eq z 0 c'
                generalize addS z 0 c' = z2 at *
                generalize addC z 0 c' = c2 at *
                have hA2 : val (us2.set j z2) + BW ^ (j + 1) * c2 = val us1 + val vs := by
                  have h1 := val_set_take (xs := us2) (k := j) (s := z2) (by rw [HUL2.out]; omega)
                  rw [List.take_of_length_le (by rw [List.length_set, HUL2.out]; exact Nat.le_refl _)] at h1
                  have h2 := plus_step hae HV2.out
                  rw [← h1, hzw, ← val_take_succ, ← Nat.pow_succ, List.take_of_length_le (by rw [HUL.out]; exact Nat.le_refl _), List.take_of_length_le (by rw [HVL.out]; exact Nat.le_refl _), Nat.mul_zero, Nat.add_zero] at h2
                  exact h2
                have hB2 := back_step (q := q1 - 1) (b := 1) hA2 (by rw [show q1 - 1 + 1 = q1 by omega]; exact HA.out) hac
                have HB2 := Lib.hid hB2
                have HR3 := Lib.hid (HR2.out.storeW HP.out (k := j) (by rw [HUL2.out]; omega) z2 hal)
                have HG3 := Lib.hid (HG2.out.setCell (p := ⟨g, o + j, none⟩) (by simp) (.int .u64 (z2 : Int)))
                clear hz hzb hzw hae hal hA2 hB2
                go_wp2
                go_roundw
                case rel => exact ⟨q1 - 1, 1 - c2, us2.set j z2, HM, by omega, by omega, by go_num, by go_num, Lib.hid (by rw [List.length_set]; exact HUL2.out), HR3, HG3, HB2⟩
                case measure => simp [intOf]; omega
end Go.Proofs.YtedoeadhbcjjgaaDoor
