/- Joined by program (merge.py) out of 1 texts, a part of the proof: contracts of the functions that the statement reaches, and plain mathematics. No statement of the seat stands here. -/
import Derived.Test.YtedoeadhbcjjgaaDoorG23
/- recur.Mod. -/
namespace Go.Proofs.YtedoeadhbcjjgaaDoor
open Go.RowKit

set_option maxRecDepth 1000000 in
set_option maxHeartbeats 16000000 in
theorem mod_recur_any (va vb vn vm : Value) (first rule : List Int) (n : Nat) (M : Int) (w : World) (ha : SlZ w va first) (hb : SlZ w vb rule) (hvn : IntV w vn (n : Int)) (hvm : IntV w vm M) (hl : first.length = rule.length) (hL2 : rule.length ≤ 64)
    (hn : n < BW) (hM : 0 < M) (hM16 : (limbs M.natAbs).length ≤ 16) (hfr : AllRight first) (hrr : AllRight rule) :
    Calls Tryd.prog 20 #[va, vb, vn, vm] w (TermPost (modZ first rule n M) w) := by
  have HA := Lib.hid ha
  have HB := Lib.hid hb
  obtain ⟨A, ca, rfl, _⟩ := ha
  obtain ⟨B, cb, rfl, _⟩ := hb
  have HVN := Lib.hid hvn
  have HVM := Lib.hid hvm
  obtain ⟨An, ln, cn, rfl, hsn⟩ := hvn
  obtain ⟨Am, lm, cm, rfl, hsm⟩ := hvm
  have hnn : decide ((n : Int) < 0) = false := by simp
  have hmn : decide (M < 0) = false := by simp; omega
  rw [hnn] at HVN ⊢
  rw [hmn] at HVM ⊢
  have hln := hsn.len
  have hlm := hsm.len
  rw [Int.natAbs_natCast] at hln
  have hn1 : (limbs n).length ≤ 1 := len1 hn
  have hln1 : ln ≤ 1 := by omega
  have hlm16 : lm ≤ 16 := by omega
  have hlm0 : 0 < lm := by
    have := List.length_pos_iff.2 (limbs_ne (n := M.natAbs) (by omega)); omega
  have HFR := Lib.hid hfr
  have HFR0 := Lib.hid hfr
  have HRR := Lib.hid hrr
  have HNB := Lib.hid (And.intro hn hn1)
  have HMB := Lib.hid (And.intro hM hM16)
  obtain ⟨L, hLd⟩ : ∃ L, L = rule.length := ⟨_, rfl⟩
  rw [hl] at HA ⊢
  rw [← hLd] at hL2 HA HB ⊢
  have HLF : Hid (first.length = L) := Lib.hid (by rw [hl, hLd])
  have HLR := Lib.hid hLd
  have e0 : ((lm : Int) == 0) = false := by simp; omega
  have e1 : ((L : Int) != (L : Int)) = false := by simp
  have e2 : decide ((64 : Int) < (L : Int)) = false := by simp; omega
  have e3 : decide ((1 : Int) < (ln : Int)) = false := by simp; omega
  have e4 : decide ((16 : Int) < (lm : Int)) = false := by simp; omega
  obtain ⟨w0, hw0⟩ : ∃ w0, w0 = ((w.alloc (.cells #[.bool false, .slice An ln cn] 44)).alloc (.cells #[.bool false, .slice Am lm cm] 44)).alloc (.cells #[.bool false, .slice none 0 0] 44) := ⟨_, rfl⟩
  have F0 : Hid (Fr [] w w0) := Lib.hid (by rw [hw0]; exact (((Fr.refl [] w).alloc _).alloc _).alloc _)
  have hsz0 : w0.heap.size = w.heap.size + 3 := by rw [hw0]; simp
  have hb1 : w0.heap[w.heap.size]? = some (.cells #[.bool false, .slice An ln cn] 44 (0, 0)) := by
    rw [hw0]; exact (Below.heap_alloc _ _ _ (by simp; omega)).trans ((Below.heap_alloc _ _ _ (by simp)).trans (heap_alloc_new _ _))
  have hb2 : w0.heap[w.heap.size + 1]? = some (.cells #[.bool false, .slice Am lm cm] 44 (0, 0)) := by
    rw [hw0]
    have h := heap_alloc_new (w.alloc (.cells #[.bool false, .slice An ln cn] 44)) (.cells #[.bool false, .slice Am lm cm] 44)
    rw [show (w.alloc (.cells #[.bool false, .slice An ln cn] 44)).heap.size = w.heap.size + 1 by simp] at h
    exact (Below.heap_alloc _ _ _ (by simp)).trans h
  have hb3 : w0.heap[w.heap.size + 1 + 1]? = some (.cells #[.bool false, .slice none 0 0] 44 (0, 0)) := by
    rw [hw0]
    have h := heap_alloc_new ((w.alloc (.cells #[.bool false, .slice An ln cn] 44)).alloc (.cells #[.bool false, .slice Am lm cm] 44)) (.cells #[.bool false, .slice none 0 0] 44)
    rwa [show ((w.alloc (.cells #[.bool false, .slice An ln cn] 44)).alloc (.cells #[.bool false, .slice Am lm cm] 44)).heap.size = w.heap.size + 1 + 1 by simp] at h
  have HCELL : Hid (∀ w1, Fr [] w0 w1 → (w1.cell? ⟨w.heap.size, 0, none⟩ = some (.bool false) ∧ w1.cell? ⟨w.heap.size, 1, none⟩ = some (.slice An ln cn) ∧ w1.cell? ⟨w.heap.size + 1, 0, none⟩ = some (.bool false) ∧ w1.cell? ⟨w.heap.size + 1, 1, none⟩ = some (.slice Am lm cm))) := Lib.hid (by
    intro w1 f
    have hc1 := fun j => cell_of_row w0 w.heap.size j _ _ _ hb1
    have hc2 := fun j => cell_of_row w0 (w.heap.size + 1) j _ _ _ hb2
    exact ⟨(f.cell (p := ⟨w.heap.size, 0, none⟩) (by show w.heap.size < _; omega) (by simp)).trans (hc1 0), (f.cell (p := ⟨w.heap.size, 1, none⟩) (by show w.heap.size < _; omega) (by simp)).trans (hc1 1),
      (f.cell (p := ⟨w.heap.size + 1, 0, none⟩) (by show w.heap.size + 1 < _; omega) (by simp)).trans (hc2 0), (f.cell (p := ⟨w.heap.size + 1, 1, none⟩) (by show w.heap.size + 1 < _; omega) (by simp)).trans (hc2 1)⟩)
  have HRES0 := Lib.hid hb3
  clear hl hfr hrr hLd hn hM hM16 hsn hsm hln hlm hn1 hnn hmn hb1 hb2 hb3
  go_enter Tryd.func20, Tryd.ntmps20
  go_wp2_with fail
  rw [← hw0]
  clear hw0
  refine (rightRow_any _ first w0 (HA.out.keep0 F0.out) HFR.out (by rw [HLF.out]; omega)).mono ?_
  rintro e w1 ⟨rfl, hf⟩
  have F1 := Lib.hid hf
  clear hf
  go_wp2_with fail
  refine (rightRow_any _ rule w1 (HB.out.keep0 (F0.out.trans0 F1.out)) HRR.out (by rw [← HLR.out]; omega)).mono ?_
  rintro e w2 ⟨rfl, hf⟩
  have F2 := Lib.hid (F1.out.trans0 hf)
  obtain ⟨p0, p1, p2, p3⟩ := HCELL.out w2 (F1.out.trans0 hf)
  clear hf F1
  go_wp2_with fail
  have FA : Hid (Fr [] w2 (w2.alloc (.cells #[.bool false, .slice An ln cn, .bool false, .slice Am lm cm] 44))) := Lib.hid ((Fr.refl [] w2).alloc _)
  refine (rightRow_any _ [(n : Int), M] _ (SlZ_two (heap_alloc_new w2 _) (HVN.out.keep0 ((F0.out.trans0 F2.out).trans0 FA.out)) (HVM.out.keep0 ((F0.out.trans0 F2.out).trans0 FA.out))) ?_ (by simp)).mono ?_
  · intro i hi
    match i, hi with
    | 0, _ => show (limbs ((n : Int)).natAbs).length ≤ 4096; rw [Int.natAbs_natCast]; have := HNB.out.2; omega
    | 1, _ => show (limbs M.natAbs).length ≤ 4096; have := HMB.out.2; omega
  rintro e w3 ⟨rfl, hf⟩
  have F3 := Lib.hid ((F2.out.trans0 FA.out).trans0 hf)
  clear hf FA p0 p1 p2 p3
  obtain ⟨p0, p1, p2, p3⟩ := HCELL.out w3 F3.out
  go_wp2_with fail
  refine wp_region_lexP [(0, false), (2, false), (4, false), (6, false), (1, true), (3, true), (5, true), (7, true), (8, true), (9, true), (10, true), (11, true)] (fun w' => w'.cell? ⟨w.heap.size, 0, none⟩ = some (.bool false) ∧ w'.cell? ⟨w.heap.size, 1, none⟩ = some (.slice An ln cn) ∧ w'.cell? ⟨w.heap.size + 1, 0, none⟩ = some (.bool false) ∧ w'.cell? ⟨w.heap.size + 1, 1, none⟩ = some (.slice Am lm cm)) 7 (by kernel_rfl) (by kernel_rfl) (fun _ _ d _ _ h => by cases d <;> exact h) ⟨p0, p1, p2, p3⟩ ?_
  iterate 4 (refine lexP_yield (by rfl) (by rfl) (by intro w hSw; (try dsimp only at hSw); go_simp; (try rfl)) ?_; simp only [Act.put, List.setIfInBounds_toArray, List.set_cons_zero, List.set_cons_succ])
  have F3d : Hid (Fr [] w0 w3.drew) := Lib.hid F3.out.drew
  refine lexP_step (by rfl) (by rfl) (fun K hK => ?_)
  go_simp
  go_at_call 34
  refine (numbers_any _ rule w3.drew (HB.out.keep0 (F0.out.trans0 F3d.out)) HRR.out (by rw [← HLR.out]; omega)).mono ?_
  rintro e w4 ⟨v1, hs, rfl, ho, hbr, hnd, hge, hf⟩
  have HO1 := Lib.hid ho
  have HB1 := Lib.hid hbr
  have HND1 := Lib.hid (And.intro hnd hge)
  have F4 := Lib.hid (F3d.out.trans0 hf)
  have hs34 := hf.size
  have HHS : Hid (∀ g ∈ hs, w3.heap.size ≤ g ∧ g < w4.heap.size) := Lib.hid (fun g hg => ⟨hge g hg, hbr.lt hg⟩)
  refine hK.out _ _ (fun _ => HCELL.out w4 F4.out) ?_
  clear hK K ho hbr hnd hge hf p0 p1 p2 p3
  try simp only [Act.put, List.setIfInBounds_toArray, List.set_cons_zero, List.set_cons_succ]
  refine lexP_step (by rfl) (by rfl) (fun K hK => ?_)
  go_simp
  go_at_call 34
  refine (numbers_any _ first w4 (HA.out.keep0 (F0.out.trans0 F4.out)) HFR.out (by rw [HLF.out]; omega)).mono ?_
  rintro e w5 ⟨v2, rs, rfl, ho, hbr, hnd, hge, hf⟩
  have HO2 := Lib.hid ho
  have HB2 := Lib.hid hbr
  have HO15 := Lib.hid (HO1.out.keep0 hf)
  have HB15 := Lib.hid (HB1.out.keep0 hf)
  have HRS : Hid (∀ g ∈ rs, w4.heap.size ≤ g ∧ g < w5.heap.size) := Lib.hid (fun g hg => ⟨hge g hg, hbr.lt hg⟩)
  have F5 := Lib.hid (F4.out.trans0 hf)
  have hs45 := hf.size
  refine hK.out _ _ (fun _ => HCELL.out w5 F5.out) ?_
  clear hK K ho hbr hnd hge hf HO1 HB1
  try simp only [Act.put, List.setIfInBounds_toArray, List.set_cons_zero, List.set_cons_succ]
  refine lexP_step (by rfl) (by rfl) (fun K hK => ?_)
  go_simp
  go_at_call 38
  refine (exInt_any _ M w5 (HVM.out.keep0 (F0.out.trans0 F5.out)) (by have := HMB.out.2; omega)).mono ?_
  rintro e w6 ⟨gm, rfl, hgm, hbm, hf⟩
  have HM6 := Lib.hid hbm
  have HO16 := Lib.hid (HO15.out.keep0 hf)
  have HB16 := Lib.hid (HB15.out.keep0 hf)
  have HO26 := Lib.hid (HO2.out.keep0 hf)
  have HB26 := Lib.hid (HB2.out.keep0 hf)
  have F6 := Lib.hid (F5.out.trans0 hf)
  have hs56 := hf.size
  refine hK.out _ _ (fun _ => HCELL.out w6 F6.out) ?_
  clear hK K hbm hf HO15 HB15 HO2 HB2
  try simp only [Act.put, List.setIfInBounds_toArray, List.set_cons_zero, List.set_cons_succ]
  refine lexP_step (by rfl) (by rfl) (fun K hK => ?_)
  go_simp
  go_at_call 38
  refine (exInt_any _ (n : Int) w6 (HVN.out.keep0 (F0.out.trans0 F6.out)) (by rw [Int.natAbs_natCast]; have := HNB.out.2; omega)).mono ?_
  rintro e w7 ⟨gn, rfl, hgn, hbn, hf⟩
  have HN7 := Lib.hid hbn
  have HM7 := Lib.hid (HM6.out.keep0 hf)
  have HO17 := Lib.hid (HO16.out.keep0 hf)
  have HB17 := Lib.hid (HB16.out.keep0 hf)
  have HO27 := Lib.hid (HO26.out.keep0 hf)
  have HB27 := Lib.hid (HB26.out.keep0 hf)
  have F7 := Lib.hid (F6.out.trans0 hf)
  have hs67 := hf.size
  refine hK.out _ _ (fun h => absurd h (by decide)) ?_
  clear hK K hbn hf HO16 HB16 HO26 HB26 HM6
  try simp only [Act.put, List.setIfInBounds_toArray, List.set_cons_zero, List.set_cons_succ]
  refine lexP_step (by rfl) (by rfl) (fun K hK => ?_)
  go_simp
  refine hK.out _ _ (fun h => absurd h (by decide)) ?_
  clear hK K
  try simp only [Act.put, List.setIfInBounds_toArray, List.set_cons_zero, List.set_cons_succ]
  refine lexP_step (by rfl) (by rfl) (fun K hK => ?_)
  go_simp
  refine hK.out _ _ (fun h => absurd h (by decide)) ?_
  clear hK K
  try simp only [Act.put, List.setIfInBounds_toArray, List.set_cons_zero, List.set_cons_succ]
  refine lexP_step (by rfl) (by rfl) (fun K hK => ?_)
  go_simp
  refine hK.out _ _ (fun h => absurd h (by decide)) ?_
  clear hK K
  try simp only [Act.put, List.setIfInBounds_toArray, List.set_cons_zero, List.set_cons_succ]
  refine lexP_step (by rfl) (by rfl) (fun K hK => ?_)
  go_simp
  refine hK.out _ _ (fun h => absurd h (by decide)) ?_
  clear hK K
  refine lexP_done ?_
  have hgml := HM7.out.lt
  have hgnl := HN7.out.lt
  have hs03 := F3.out.size
  have HGMH : Hid (gm ∉ hs) := Lib.hid (fun hm => by have h1 := (HHS.out gm hm).2; omega)
  have HGNH : Hid (gn ∉ hs) := Lib.hid (fun hm => by have h1 := (HHS.out gn hm).2; omega)
  have HRH : Hid (∀ g ∈ rs, g ∉ hs) := Lib.hid (fun g hg hm => by have h1 := (HHS.out g hm).2; have h2 := (HRS.out g hg).1; omega)
  obtain ⟨A1, c1, hv1, hc1, hx1⟩ := HO17.out.open_
  have hlh : hs.length = L := by rw [HB17.out.1, ← HLR.out]
  have HLH := Lib.hid hlh
  rw [hlh] at hv1 hc1 hx1
  subst hv1
  have HX1 := Lib.hid hx1
  have HI7 : Hid (AreInts w7 hs) := Lib.hid HB17.out.areInts
  clear hx1 hlh
  go_wp2_with fail
  go_loopw [88] (fun iv wr => ∃ k : Nat, k ≤ L ∧ iv = .int .i64 (k : Int) ∧ Hid (BigRow wr hs (modAll M rule k)) ∧ Hid (Fr hs w7 wr)) (fun iv _ => L - (intOf iv).toNat)
  case atStart => exact ⟨0, by omega, rfl, HB17, Lib.hid (Fr.refl _ _)⟩
  case round =>
    obtain ⟨k, hk, rfl, HK, HFK⟩ := hrel
    obtain ⟨wk, rfl⟩ : ∃ wk : World, wk = wr := ⟨_, rfl⟩
    by_cases hkL : k = L
    · have hkL' := hkL.symm
      subst hkL'
      obtain ⟨w8, rfl⟩ : ∃ w8 : World, w8 = wk := ⟨_, rfl⟩
      have HB18 : Hid (BigRow w8 hs (ruleM rule M)) := Lib.hid (by unfold ruleM; rw [← HLR.out]; exact HK.out)
      have HO18 : Hid (OwP w8 w3.heap.size (.slice A1 L c1) hs) := Lib.hid (HO17.out.keepI HFK.out HI7.out)
      have HB28 : Hid (BigRow w8 rs first) := Lib.hid (HB27.out.keepD HFK.out HI7.out HRH.out)
      have HO28 := Lib.hid (HO27.out.keepI HFK.out HI7.out)
      have HM8 := Lib.hid (HM7.out.keep HFK.out HI7.out HGMH.out)
      have HN8 := Lib.hid (HN7.out.keep HFK.out HI7.out HGNH.out)
      have F8 : Hid (Fr [] w0 w8) := Lib.hid (F7.out.trans HFK.out (by intro x hx hlt; have := (HHS.out x hx).1; omega))
      have hs78 := HFK.out.size
      have hs08 := F8.out.size
      have HRB : Hid (AllB 16 (ruleM rule M)) := Lib.hid (modAll_B HMB.out.1 HMB.out.2 rule)
      have HRL : Hid ((ruleM rule M).length = L) := Lib.hid (by unfold ruleM; rw [modAll_length, ← HLR.out])
      obtain ⟨R, hR⟩ : ∃ R, R = ruleM rule M := ⟨_, rfl⟩
      rw [← hR] at HB18 HRB HRL
      have HRD := Lib.hid hR
      clear hkL hk HK hR HB17 HO17 HB27 HO27 HM7 HN7 HX1
      go_wp2_with fail
      refine (newInt_any 1 w8 (by unfold Ri; omega)).mono ?_
      rintro e w9 ⟨g1, rfl, hg1, hb, hf⟩
      have H19 := Lib.hid hb
      have F89 := Lib.hid hf
      have hs89 := hf.size
      clear hb hf
      go_wp2_with fail
      obtain ⟨wa, hwa⟩ : ∃ wa, wa = w9.alloc (.cells #[.pointer (some ⟨g1, 0, none⟩)] 35) := ⟨_, rfl⟩
      have F9a : Hid (Fr [] w9 wa) := Lib.hid (by rw [hwa]; exact (Fr.refl [] w9).alloc _)
      have HP1 : Hid (OwP wa w8.heap.size (.slice (some ⟨w9.heap.size, 0, none⟩) 1 1) [g1]) := Lib.hid (by rw [hwa]; exact OwP_one rfl (heap_alloc_new w9 _) hs89)
      have F8a : Hid (Fr [] w8 wa) := Lib.hid (F89.out.trans0 F9a.out)
      have HR1 : Hid (BigRow wa [g1] [1]) := Lib.hid (by
        have h := (BigRow.nil w9).snoc H19.out
        exact h.keep0 F9a.out)
      have HG1 : Hid (∀ g ∈ [g1], g ∉ hs) := Lib.hid (fun g hg hm => by have h1 := (HHS.out g hm).2; simp only [List.mem_singleton] at hg; omega)
      have HG2 : Hid (gm ∉ [g1]) := Lib.hid (by simp only [List.mem_singleton]; omega)
      have HB1 : Hid (AllB 16 [1]) := Lib.hid (by
        have h : AllB 16 ([] : List Int) := by intro i; simp [limbs_zero]
        exact h.cons (by show (limbs 1).length ≤ 16; have := len1 (show 1 < BW by rw [BW_eq]; omega); omega))
      rw [← hwa]
      refine (modulo_any _ _ [g1] hs gm [1] R M w8.heap.size w3.heap.size wa HP1.out (HO18.out.keep0 F8a.out) HR1.out (HB18.out.keep0 F8a.out) (HM8.out.keep0 F8a.out) HMB.out.1 (by simp) HG1.out HG2.out (by simp) (by rw [HLH.out]; omega) (HB1.out.mono (by omega)) (HRB.out.mono (by omega)) (by have := HMB.out.2; omega)).mono ?_
      rintro e w10 ⟨v10, rfl, ho, hb, hf⟩
      have HO10 := Lib.hid ho
      have HB10 := Lib.hid hb
      have F8x : Hid (Fr [] w8 w10) := Lib.hid (F8a.out.trans hf (by intro x hx hlt; simp only [List.mem_singleton] at hx; omega))
      have HGS10 : Hid (([g1].take (min R.length [(1 : Int)].length)).Nodup ∧ ∀ g ∈ [g1].take (min R.length [(1 : Int)].length), w8.heap.size ≤ g) := Lib.hid ⟨(show [g1].Nodup by simp).sublist (List.take_sublist _ _), fun g hg => by have := List.mem_of_mem_take hg; simp only [List.mem_singleton] at this; omega⟩
      have HP10 : Hid ((moduloZ [1] R M).length ≤ L ∧ AllB 16 (moduloZ [1] R M)) := Lib.hid ⟨by rw [moduloZ_length, HRL.out]; omega, moduloZ_B HMB.out.1 HMB.out.2 HB1.out⟩
      obtain ⟨gs0, hgs0⟩ : ∃ gs0, gs0 = [g1].take (min R.length [(1 : Int)].length) := ⟨_, rfl⟩
      rw [← hgs0] at HO10 HB10 HGS10
      obtain ⟨q0, hq0⟩ : ∃ q0, q0 = moduloZ [1] R M := ⟨_, rfl⟩
      rw [← hq0] at HB10 HP10
      have HQ0 := Lib.hid hq0
      have hbt := (enough_bits n).2
      obtain ⟨bits, hbits⟩ : ∃ bits, bits = bitsOf n := ⟨_, rfl⟩
      rw [← hbits] at hbt
      have HBITS := Lib.hid hbits
      have hbb : bits ≤ 64 := by have := HNB.out.2; omega
      have HBL := Lib.hid (bitLen_any gn (n : Int) w10 (HN8.out.keep0 F8x.out) (by rw [Int.natAbs_natCast]; have := HNB.out.2; omega))
      unfold SizePost at HBL
      rw [Int.natAbs_natCast, ← hbits] at HBL
      clear ho hb hf hwa hgs0 hq0 hbt hbits HR1 HP1 HG1 HG2 HB1
      go_wp2_with (go_at_call 36; refine HBL.out.mono ?_; rintro e w' ⟨rfl, rfl⟩)
      go_loopw [16, 17] (fun pv tv wr => ∃ (k : Nat) (p : List Int) (gs : List Nat) (i : Int), k ≤ bits ∧ i = (k : Int) - 1 ∧ tv = .int .i64 i ∧ Hid (OwP wr w8.heap.size pv gs) ∧ Hid (BigRow wr gs p) ∧ Hid (gs.Nodup ∧ ∀ g ∈ gs, w8.heap.size ≤ g) ∧ Hid (powZ R M n k p = powZ R M n bits q0) ∧ Hid (p.length ≤ L ∧ AllB 16 p) ∧ Hid (Fr [] w8 wr)) (fun _ tv _ => ((intOf tv) + 1).toNat)
      case atStart => exact ⟨bits, q0, gs0, _, Nat.le_refl _, rfl, rfl, HO10, HB10, HGS10, Lib.hid rfl, HP10, F8x⟩
      case round =>
        obtain ⟨k, p, gs, i, hk, hik, rfl, HOP, HBP, HGS, HPW, HPL, HFR⟩ := hrel
        obtain ⟨wl, rfl⟩ : ∃ wl : World, wl = wr := ⟨_, rfl⟩
        have hszl := HFR.out.size
        have HGL : Hid (gs.length = p.length) := Lib.hid HBP.out.1
        have hpl := HPL.out.1
        have hgsl : gs.length ≤ 64 := by rw [HGL.out]; omega
        have HGD : Hid ((∀ g ∈ gs, g ∉ hs) ∧ gm ∉ gs) := Lib.hid ⟨fun g hg hm => by have h1 := (HHS.out g hm).2; have h2 := HGS.out.2 g hg; omega, fun hm => by have h2 := HGS.out.2 gm hm; have h3 := HM8.out.lt; omega⟩
        rcases Nat.eq_zero_or_pos k with hk0 | hk0
        · subst hk0
          have hi0 : i = -1 := by omega
          clear hik
          subst hi0
          obtain ⟨zs, hzs⟩ : ∃ zs, zs = powZ R M n bits q0 := ⟨_, rfl⟩
          have HPZ : Hid (p = zs) := Lib.hid (by rw [hzs, ← HPW.out]; rfl)
          have HZS := Lib.hid hzs
          obtain ⟨np, hnp⟩ : ∃ np, np = gs.length := ⟨_, rfl⟩
          have hnpL : np ≤ L := by rw [hnp, HGL.out]; exact hpl
          obtain ⟨A4, c4, hv4, hc4, hx4⟩ := HOP.out.open_
          obtain ⟨A5, c5, hv5, hc5, hx5⟩ := HO28.out.open_
          have hrl : rs.length = L := by rw [HB28.out.1, HLF.out]
          rw [← hnp] at hv4 hc4 hx4
          rw [hrl] at hv5 hc5 hx5
          subst hv4
          subst hv5
          have HNP := Lib.hid hnp
          have HRSL := Lib.hid hrl
          have HX4 := Lib.hid hx4
          have HX5 := Lib.hid hx5
          clear hzs hnp hx4 hx5 hrl hk HPW
          go_wp2_with fail
          obtain ⟨gsum, hgs⟩ : ∃ gsum, gsum = wl.heap.size := ⟨_, rfl⟩
          obtain ⟨ws, hws⟩ : ∃ ws, ws = wl.alloc (.cells #[.bool false, .slice none 0 0] 38) := ⟨_, rfl⟩
          have Fls : Hid (Fr [] wl ws) := Lib.hid (by rw [hws]; exact (Fr.refl [] wl).alloc _)
          have HS0 : Hid (BigAt ws gsum 0) := Lib.hid (by rw [hws, hgs]; exact BigAt_new wl)
          rw [← hgs, ← hws]
          have hgs2 : wl.heap.size ≤ gsum := by omega
          clear hgs hws
          go_loopw [128] (fun iv wi => ∃ i : Nat, i ≤ np ∧ iv = .int .i64 (i : Int) ∧ Hid (BigAt wi gsum (dotZ p first i)) ∧ Hid (Fr [gsum] ws wi)) (fun iv _ => np - (intOf iv).toNat)
          case atStart => exact ⟨0, by omega, rfl, HS0, Lib.hid (Fr.refl _ _)⟩
          case round =>
            obtain ⟨i, hi, rfl, HS, HFI⟩ := hrel
            obtain ⟨wi, rfl⟩ : ∃ wi : World, wi = wr := ⟨_, rfl⟩
            have FWi : Hid (Fr [] wl wi) := Lib.hid (Fls.out.own1 HFI.out hgs2)
            have F8i : Hid (Fr [] w8 wi) := Lib.hid (HFR.out.trans0 FWi.out)
            have hdl := dotZ_B HPL.out.2 (AllB.of_right HFR0.out) i
            by_cases hip : i = np
            · have hip' := hip.symm
              subst hip'
              have hfin : dotZ p first np % M = modZ first rule n M := by
                unfold modZ
                rw [← HRD.out, ← HBITS.out, ← HQ0.out, ← HZS.out, ← HPZ.out, ← HGL.out, ← HNP.out]
              have HFIN := Lib.hid hfin
              have F0i : Hid (Fr [] w0 wi) := Lib.hid (F8.out.trans0 F8i.out)
              have hsz0i := F0i.out.size
              obtain ⟨sm, hsm⟩ : ∃ sm, sm = dotZ p first np := ⟨_, rfl⟩
              rw [← hsm] at HS hdl HFIN
              have HDL := Lib.hid hdl
              have hszli := FWi.out.size
              clear hsm hip hi hfin hdl
              go_wp2_with fail
              refine (mod_any gsum gsum gm sm M wi HS.out.blk HS.out (HM8.out.keep0 F8i.out) (by have := HDL.out; omega) (by have := HMB.out.2; omega) HMB.out.1).mono ?_
              rintro e wx ⟨rfl, hb, hf⟩
              have HSX := Lib.hid hb
              have F0x : Hid (Fr [] w0 wx) := Lib.hid (F0i.out.own1 hf (by omega))
              have hszx := F0x.out.size
              have HLX : Hid ((limbs (sm % M).natAbs).length ≤ 4096) := Lib.hid (by have := limbs_mod_len HMB.out.1 HMB.out.2 sm; omega)
              clear hb hf
              go_wp2_with fail
              refine (told_any gsum (sm % M) wx HSX.out HLX.out).mono ?_
              rintro e wy ⟨vy, rfl, hv, hf⟩
              obtain ⟨A6, n6, c6, rfl, ho⟩ := hv
              have HO6 := Lib.hid ho
              have F0y : Hid (Fr [] w0 wy) := Lib.hid (F0x.out.trans0 hf)
              have HRES : Hid (wy.heap[w.heap.size + 1 + 1]? = some (.cells #[.bool false, .slice none 0 0] 44 (0, 0))) := Lib.hid ((F0y.out.block (w.heap.size + 1 + 1) (by omega) (by simp)).trans HRES0.out)
              have hlty := (Array.getElem?_eq_some_iff.1 HRES.out).1
              have c0 := cell_of_row wy (w.heap.size + 1 + 1) 0 _ _ _ HRES.out
              have c1' := cell_of_row wy (w.heap.size + 1 + 1) 1 _ _ _ HRES.out
              have fz : ∀ j, wy.frozen? ⟨w.heap.size + 1 + 1, j, none⟩ = false := fun j => frozen_of_row wy (w.heap.size + 1 + 1) j _ _ HRES.out
              simp only [List.getElem?_toArray, List.getElem?_cons_zero, List.getElem?_cons_succ] at c0 c1'
              clear ho hf
              go_wp2_with fail
              have FZ : Fr [w.heap.size + 1 + 1] wy _ := ((((Fr.refl [w.heap.size + 1 + 1] wy).setCell (p := ⟨w.heap.size + 1 + 1, 0, none⟩) (by simp) (.bool (decide (sm % M < 0)))).setCell (p := ⟨w.heap.size + 1 + 1, 1, none⟩) (by simp) (.slice A6 n6 c6)).alloc (.cells #[.bool (decide (sm % M < 0)), .slice A6 n6 c6] 44))
              exact bodyPost_ret (v := .tuple #[.agg #[.bool (decide (sm % M < 0)), .slice A6 n6 c6], .int .i64 0]) (by simp [results, Tryd.results20, go_sem, c0, c1', fz, hlty, World.cell?_alloc_past]) rfl ⟨_, rfl, ⟨A6, n6, c6, by rw [← HFIN.out], by rw [← HFIN.out]; exact (HO6.out.base_le (by omega)).keep FZ (by intro k hk; have := (HO6.out.lt hk).1; simp; omega)⟩, (F0.out.trans0 F0y.out).own1 FZ (by omega)⟩
            · have hi2 : i < np := by omega
              obtain ⟨b4, rfl, hx4⟩ := HX4.out (by omega)
              obtain ⟨b5, rfl, hx5⟩ := HX5.out (by omega)
              have hcb := hx4 i hi2
              have hcb2 : wi.cell? ⟨b4, i, none⟩ = some (.pointer (some ⟨gs.getD i 0, 0, none⟩)) := (FWi.out.cell (p := ⟨b4, i, none⟩) (World.block_lt_of_cell? wl _ hcb) (by simp)).trans hcb
              have hcr := hx5 i (by omega)
              have hcr2 : wi.cell? ⟨b5, i, none⟩ = some (.pointer (some ⟨rs.getD i 0, 0, none⟩)) := (F8i.out.cell (p := ⟨b5, i, none⟩) (World.block_lt_of_cell? w8 _ hcr) (by simp)).trans hcr
              have hbx := (HBP.out.2 i (by rw [← HNP.out]; exact hi2)).keep0 FWi.out
              have hby := (HB28.out.2 i (by rw [HRSL.out]; omega)).keep0 F8i.out
              have hl1 := HPL.out.2 i
              have hl2 := HFR0.out i (by rw [HLF.out]; omega)
              have hnx : dotZ p first (i + 1) = dotZ p first i + p.getD i 0 * first.getD i 0 := rfl
              have hmul := limbs_mul_len (p.getD i 0).natAbs (first.getD i 0).natAbs
              obtain ⟨gx, hgx⟩ : ∃ g, g = gs.getD i 0 := ⟨_, rfl⟩
              obtain ⟨gy, hgy⟩ : ∃ g, g = rs.getD i 0 := ⟨_, rfl⟩
              obtain ⟨x, hx⟩ : ∃ x, x = p.getD i 0 := ⟨_, rfl⟩
              obtain ⟨y, hy⟩ : ∃ y, y = first.getD i 0 := ⟨_, rfl⟩
              obtain ⟨sm, hsm'⟩ : ∃ sm, sm = dotZ p first i := ⟨_, rfl⟩
              rw [← hgx] at hcb2 hbx
              rw [← hgy] at hcr2 hby
              rw [← hx] at hbx hl1 hnx hmul
              rw [← hy] at hby hl2 hnx hmul
              rw [← hsm'] at hdl hnx HS
              have HNX := Lib.hid hnx
              have HPX := Lib.hid hbx
              have HQY := Lib.hid hby
              have HLL : Hid ((limbs x.natAbs).length ≤ 16 ∧ (limbs y.natAbs).length ≤ 4096 ∧ (limbs sm.natAbs).length ≤ 1000000 ∧ (limbs (x * y).natAbs).length ≤ 10000) := Lib.hid ⟨hl1, hl2, by omega, by rw [Int.natAbs_mul]; omega⟩
              have hb4i := World.block_lt_of_cell? wi _ hcb2
              have hb5i := World.block_lt_of_cell? wi _ hcr2
              have hiL : i < L := by omega
              clear hcb hcr hbx hby hl1 hl2 hdl hnx hmul hgx hgy hx hy hsm' hx4 hx5 hip
              go_wp2_with fail
              have FA : Hid (Fr [] wi (wi.alloc (.cells #[.bool false, .slice none 0 0] 38))) := Lib.hid ((Fr.refl [] wi).alloc _)
              refine (mul_any wi.heap.size gx gy x y _ (BigAt_new wi).blk (HPX.out.keep0 FA.out) (HQY.out.keep0 FA.out) (by have := HLL.out; omega) (by have := HLL.out; omega)).mono ?_
              rintro e wx ⟨rfl, hb, hf⟩
              have HMX := Lib.hid hb
              have Fx : Hid (Fr [] wi wx) := Lib.hid (FA.out.own1 hf (Nat.le_refl _))
              have HSx := Lib.hid (HS.out.keep0 Fx.out)
              clear hb hf FA
              go_wp2_with fail
              refine (add_any gsum gsum wi.heap.size sm (x * y) _ HSx.out.blk HSx.out HMX.out (by have := HLL.out; omega) (by have := HLL.out; omega)).mono ?_
              rintro e wy ⟨rfl, hb, hf⟩
              rw [← HNX.out] at hb
              have HSy := Lib.hid hb
              have HFy : Hid (Fr [gsum] ws wy) := Lib.hid ((HFI.out.trans0 Fx.out).trans hf (by simp))
              clear hb hf
              go_wp2_with fail
              go_roundw
              case rel => exact ⟨i + 1, by omega, by go_num, HSy, HFy⟩
              case measure => simp [intOf]; omega
        · obtain ⟨j, rfl⟩ : ∃ j, k = j + 1 := ⟨k - 1, by omega⟩
          have hij : i = (j : Int) := by omega
          clear hik
          subst hij
          have hjb : j < 64 := by omega
          have HPS : Hid (powZ R M n (j + 1) p = powZ R M n j (if n / 2 ^ j % 2 = 1 then moduloZ (0 :: productZ p p R M) R M else productZ p p R M)) := Lib.hid rfl
          go_wp2_with fail
          refine (product_any _ _ _ gs gs hs gm p p R M w8.heap.size w8.heap.size w3.heap.size wl HOP.out HOP.out (HO18.out.keep0 HFR.out) HBP.out HBP.out (HB18.out.keep0 HFR.out) (HM8.out.keep0 HFR.out) HMB.out.1 (by omega) (by omega) (by rw [HLH.out]; omega) (HPL.out.2.mono (by omega)) (HPL.out.2.mono (by omega)) (HRB.out.mono (by omega)) (by have := HMB.out.2; omega)).mono ?_
          rintro e wx ⟨vx, gx, rfl, ho, hb, hnd, hge, hf⟩
          have HOX := Lib.hid (ho.base_le hszl)
          have HBX := Lib.hid hb
          have HGX : Hid (gx.Nodup ∧ ∀ g ∈ gx, w8.heap.size ≤ g) := Lib.hid ⟨hnd, fun g hg => by have := hge g hg; omega⟩
          have F8x' : Hid (Fr [] w8 wx) := Lib.hid (HFR.out.trans0 hf)
          have hszx := F8x'.out.size
          obtain ⟨q, hq⟩ : ∃ q, q = productZ p p R M := ⟨_, rfl⟩
          have HQL : Hid (q.length ≤ L ∧ AllB 16 q) := Lib.hid ⟨by rw [hq, productZ_length, HRL.out]; omega, by rw [hq]; exact productZ_B HMB.out.1 HMB.out.2 p p⟩
          rw [← hq] at HBX HPS
          have hgxl : gx.length ≤ 64 := by rw [HBX.out.1]; have := HQL.out.1; omega
          have HBIT := Lib.hid (bit_any gn (n : Int) j wx (HN8.out.keep0 F8x'.out) (by rw [Int.natAbs_natCast]; have := HNB.out.2; omega) (by omega))
          rw [Int.natAbs_natCast] at HBIT
          clear ho hb hnd hge hf hq
          by_cases hbit : n / 2 ^ j % 2 = 1
          · have HBV : Hid (bitOf n j = 1) := Lib.hid hbit
            rw [if_pos hbit] at HPS
            clear hbit
            go_wp2_with fail
            refine HBIT.out.mono ?_
            rw [HBV.out]
            rintro e w' ⟨rfl, rfl⟩
            obtain ⟨wb, hwb⟩ : ∃ wb, wb = (wx.alloc (.cells #[.bool false, .slice none 0 0] 38)).alloc (.cells #[.pointer (some ⟨wx.heap.size, 0, none⟩)] 35) := ⟨_, rfl⟩
            have Fxb : Hid (Fr [] wx wb) := Lib.hid (by rw [hwb]; exact ((Fr.refl [] wx).alloc _).alloc _)
            have hbk : wb.heap[wx.heap.size + 1]? = some (.cells #[.pointer (some ⟨wx.heap.size, 0, none⟩)] 35 (0, 0)) := by
              rw [hwb]
              have h := heap_alloc_new (wx.alloc (.cells #[.bool false, .slice none 0 0] 38)) (.cells #[.pointer (some ⟨wx.heap.size, 0, none⟩)] 35)
              rwa [show (wx.alloc (.cells #[.bool false, .slice none 0 0] 38)).heap.size = wx.heap.size + 1 by simp] at h
            have HBK := Lib.hid hbk
            have HONE : Hid (OwP wb w8.heap.size (.slice (some ⟨wx.heap.size + 1, 0, none⟩) 1 1) [wx.heap.size]) := Lib.hid (OwP_one rfl hbk (by omega))
            have HNB1 : Hid (BigRow wb ([wx.heap.size] ++ gx) (0 :: q)) := Lib.hid (by
              have h1 : BigAt wb wx.heap.size 0 := by rw [hwb]; exact (BigAt_new wx).keep0 ((Fr.refl [] _).alloc _)
              exact ((BigRow.nil wb).snoc h1).append (HBX.out.keep0 Fxb.out))
            have HSZB : Hid (wb.heap.size = wx.heap.size + 2) := Lib.hid (by rw [hwb]; simp)
            have HOXB := Lib.hid (HOX.out.keep0 Fxb.out)
            have HEQB := Lib.hid hwb
            clear hwb hbk
            go_wp2_with (at_builtin; refine wp_appendPS rfl _ _ rfl w8.heap.size w8.heap.size _ _ [wx.heap.size] gx rfl (by rw [← HEQB.out]; exact HONE.out) rfl (by rw [← HEQB.out]; exact HOXB.out) (by simp; omega) (by rw [← HEQB.out, HSZB.out]; omega) ?_; intro v6 w6 ho hfr; rw [← HEQB.out] at hfr; have HO6 := Lib.hid ho; have HFR6 : Hid (Fr [wx.heap.size + 1] wb w6) := Lib.hid (by exact hfr); clear ho hfr)
            have hsz6 := HFR6.out.size
            have hszb := HSZB.out
            have HNU6 : Hid (NotU wb [wx.heap.size + 1]) := Lib.hid (by
              intro x hx _ cs' fr e
              simp only [List.mem_singleton] at hx
              subst hx
              rw [HBK.out] at e
              simp at e)
            have HB6 : Hid (BigRow w6 ([wx.heap.size] ++ gx) (0 :: q)) := Lib.hid (HNB1.out.keepT HFR6.out HNU6.out (fun x hx hm => by
              simp only [List.mem_singleton] at hm
              subst hm
              obtain ⟨_, _, _, _, h3⟩ := HNB1.out.ints hx
              rw [HBK.out] at h3
              simp at h3))
            have F86 : Hid (Fr [] w8 w6) := Lib.hid ((F8x'.out.trans0 Fxb.out).own1 HFR6.out (by omega))
            have HND6 : Hid (([wx.heap.size] ++ gx).Nodup ∧ ∀ g ∈ [wx.heap.size] ++ gx, w8.heap.size ≤ g) := Lib.hid (by
              refine ⟨?_, ?_⟩
              · rw [List.nodup_append]
                refine ⟨by simp, HGX.out.1, ?_⟩
                intro a ha b hb
                simp only [List.mem_singleton] at ha
                have := HBX.out.lt hb
                omega
              · intro g hg
                rcases List.mem_append.1 hg with h | h
                · simp only [List.mem_singleton] at h; omega
                · exact HGX.out.2 g h)
            have HGD6 : Hid ((∀ g ∈ [wx.heap.size] ++ gx, g ∉ hs) ∧ gm ∉ [wx.heap.size] ++ gx) := Lib.hid ⟨fun g hg hm => by have h1 := (HHS.out g hm).2; have h2 := HND6.out.2 g hg; omega, fun hm => by have h2 := HND6.out.2 gm hm; have h3 := HM8.out.lt; omega⟩
            have HQ6 : Hid (AllB 16 (0 :: q)) := Lib.hid (HQL.out.2.cons (by simp [limbs_zero]))
            have HLL6 : Hid (([wx.heap.size] ++ gx).length ≤ 1000 ∧ (0 :: q).length ≤ 100) := Lib.hid (by have := HQL.out.1; simp; omega)
            go_wp2_with fail
            refine (modulo_any v6 _ ([wx.heap.size] ++ gx) hs gm (0 :: q) R M w8.heap.size w3.heap.size w6 HO6.out (HO18.out.keep0 F86.out) HB6.out (HB18.out.keep0 F86.out) (HM8.out.keep0 F86.out) HMB.out.1 HND6.out.1 HGD6.out.1 HGD6.out.2 HLL6.out.1 (by rw [HLH.out]; omega) (HQ6.out.mono (by omega)) (HRB.out.mono (by omega)) (by have := HMB.out.2; omega)).mono ?_
            rintro e w7x ⟨v7, rfl, ho, hb, hf⟩
            have HO7 := Lib.hid ho
            have HB7 := Lib.hid hb
            have F87 : Hid (Fr [] w8 w7x) := Lib.hid (F86.out.trans hf (by intro x hx hlt; have := HND6.out.2 x hx; omega))
            have HND7 : Hid ((([wx.heap.size] ++ gx).take (min R.length (0 :: q).length)).Nodup ∧ ∀ g ∈ ([wx.heap.size] ++ gx).take (min R.length (0 :: q).length), w8.heap.size ≤ g) := Lib.hid ⟨HND6.out.1.sublist (List.take_sublist _ _), fun g hg => HND6.out.2 g (List.mem_of_mem_take hg)⟩
            have HQ7 : Hid ((moduloZ (0 :: q) R M).length ≤ L ∧ AllB 16 (moduloZ (0 :: q) R M)) := Lib.hid ⟨by rw [moduloZ_length, HRL.out]; omega, moduloZ_B HMB.out.1 HMB.out.2 HQ6.out⟩
            clear ho hb hf
            go_wp2_with fail
            go_roundw
            case rel => exact ⟨j, moduloZ (0 :: q) R M, _, _, by omega, rfl, by first | go_num | exact congrArg (Value.int .i64) (by omega), HO7, HB7, HND7, Lib.hid (by rw [← HPS.out]; exact HPW.out), HQ7, F87⟩
            case measure => simp [intOf]; try omega
          · have HBV : Hid (bitOf n j = 0) := Lib.hid (by unfold bitOf; omega)
            rw [if_neg hbit] at HPS
            clear hbit
            go_wp2_with fail
            refine HBIT.out.mono ?_
            rw [HBV.out]
            rintro e w' ⟨rfl, rfl⟩
            go_wp2_with fail
            go_roundw
            case rel => exact ⟨j, q, gx, _, by omega, rfl, by first | go_num | exact congrArg (Value.int .i64) (by omega), HOX, HBX, HGX, Lib.hid (by rw [← HPS.out]; exact HPW.out), HQL, F8x'⟩
            case measure => simp [intOf]; try omega
    · have hk2 : k < L := by omega
      obtain ⟨b1, rfl, hx1⟩ := HX1.out (by omega)
      have HOk : Hid (OwP wk w3.heap.size (.slice (some ⟨b1, 0, none⟩) L c1) hs) := Lib.hid (HO17.out.keepI HFK.out HI7.out)
      have hc := HOk.out.cells (j := k) (by rw [HLH.out]; exact hk2)
      have hgb := HK.out.2 k (by rw [HLH.out]; exact hk2)
      have hzk : (modAll M rule k).getD k 0 = rule.getD k 0 := by rw [modAll_at, if_neg (by omega)]
      have hnx : modAll M rule (k + 1) = (modAll M rule k).set k ((modAll M rule k).getD k 0 % M) := rfl
      have hlz := HRR.out k (by rw [← HLR.out]; exact hk2)
      rw [hzk] at hgb hnx
      have HSETR : Hid (∀ (w' : World) (z : Int), Fr [hs.getD k 0] wk w' → BigAt w' (hs.getD k 0) z → BigRow w' hs ((modAll M rule k).set k z)) := Lib.hid (fun w' z f hz => HK.out.set HND1.out.1 (by rw [HLH.out]; exact hk2) rfl f hz)
      have hgin : hs.getD k 0 ∈ hs := by rw [show hs.getD k 0 = hs[k]'(by rw [HLH.out]; exact hk2) by simp [List.getD, show k < hs.length by rw [HLH.out]; exact hk2]]; exact List.getElem_mem _
      obtain ⟨g, hg⟩ : ∃ g, g = hs.getD k 0 := ⟨_, rfl⟩
      obtain ⟨z, hz⟩ : ∃ z, z = rule.getD k 0 := ⟨_, rfl⟩
      rw [← hg] at hc hgb HSETR hgin
      rw [← hz] at hgb hnx hlz
      have HGB := Lib.hid hgb
      have HNX := Lib.hid hnx
      have HLZ := Lib.hid hlz
      have HGIN := Lib.hid hgin
      clear hg hz hzk hgb hnx hlz hgin hkL hx1
      go_wp2_with fail
      refine (mod_any g g gm z M wk HGB.out.blk HGB.out (HM7.out.keep HFK.out HI7.out HGMH.out) (by have := HLZ.out; omega) (by have := HMB.out.2; omega) HMB.out.1).mono ?_
      rintro e w8 ⟨rfl, hb, hf⟩
      have HROW : Hid (BigRow w8 hs (modAll M rule (k + 1))) := Lib.hid (by rw [HNX.out]; exact HSETR.out w8 _ hf hb)
      have HF8 : Hid (Fr hs w7 w8) := Lib.hid (HFK.out.trans hf (by intro x hx _; simp only [List.mem_singleton] at hx; rw [hx]; exact HGIN.out))
      clear hb hf
      go_wp2_with fail
      go_roundw
      case rel => exact ⟨k + 1, by omega, by go_num, HROW, HF8⟩
      case measure => simp [intOf]; omega
end Go.Proofs.YtedoeadhbcjjgaaDoor
