/- Joined by program (merge.py) out of 1 texts, a part of the proof: contracts of the functions that the statement reaches, and plain mathematics. No statement of the seat stands here. -/
import Derived.Test.YtedoeadhbcjjgaaDoorG14
/- recur.Shortest. -/
namespace Go.Proofs.YtedoeadhbcjjgaaDoor
open Go.RowKit

set_option maxRecDepth 1000000 in
set_option maxHeartbeats 16000000 in
theorem shortest_any (va : Value) (l : List Int) (p : Nat) (w : World) (ha : SlI w va l) (hl : l.length ≤ 4096) (hp : p ∈ nine) (hT : HasTab w) :
    Calls Tryd.prog 8 #[va, .int .i64 (p : Int)] w (ShPost l p w) := by
  obtain ⟨A, ca, rfl, hca, hxa⟩ := ha.open_
  obtain ⟨hp1, hpb⟩ := nine_two hp
  have HA := Lib.hid ha
  have HT := Lib.hid hT
  have HP := Lib.hid hp
  obtain ⟨n, hn⟩ : ∃ n, n = l.length := ⟨_, rfl⟩
  rw [← hn] at hl hca hxa HA ⊢
  have HXA := Lib.hid hxa
  have HN := Lib.hid hn
  clear ha hT hxa hn hp
  go_enter Tryd.func8, Tryd.ntmps8
  have FB : Hid (Fr [] w (w.alloc (.cells #[.int .i64 (p : Int)] 2))) := Lib.hid ((Fr.refl [] w).alloc _)
  have hbx : (w.alloc (.cells #[.int .i64 (p : Int)] 2)).cell? ⟨w.heap.size, 0, none⟩ = some (.int .i64 (p : Int)) := by simp [World.cell?_alloc_new]
  go_wp2_with fail
  refine (prime_any p _ HP.out (HT.out.keep0 FB.out)).mono ?_
  rintro e w1 ⟨rfl, hf⟩
  have F1 : Hid (Fr [] w w1) := Lib.hid (FB.out.trans0 hf)
  have hbx1 : w1.cell? ⟨w.heap.size, 0, none⟩ = some (.int .i64 (p : Int)) := (hf.cell (p := ⟨w.heap.size, 0, none⟩) (by simp) (by simp)).trans hbx
  have hsz1 := hf.size
  clear hf hbx FB
  have el : decide ((4096 : Int) < n) = false := by simp; omega
  go_wp2_with (at_make; refine wp_makeI rfl _ _ rfl _ _ n rfl rfl (by omega) (by omega) (by omega) w1.heap.size (Nat.le_refl _) ?_; intro w2 hown hgrow hsz; have HO := Lib.hid hown; have HG := Lib.hid hgrow; clear hown hgrow)
  have F2 : Hid (Fr [] w w2) := Lib.hid (F1.out.trans0 HG.out)
  have hbx2 : w2.cell? ⟨w.heap.size, 0, none⟩ = some (.int .i64 (p : Int)) := (HG.out.cell (p := ⟨w.heap.size, 0, none⟩) (by simp at hsz1; show w.heap.size < _; omega) (by simp)).trans hbx1
  have HR0 : Hid (RowI w2 w1.heap.size w1.heap.size n (fillK (fun i => l.getD i 0 % (p : Int)) n 0)) := Lib.hid ⟨fillK_length _ _ _, by rw [fillK_zero]; exact HO.out⟩
  have hgb : w.heap.size < w1.heap.size := by simp at hsz1; omega
  clear HO HG hbx1 hsz1
  obtain ⟨g, hg⟩ : ∃ g, g = w1.heap.size := ⟨_, rfl⟩
  rw [← hg] at HR0 hsz hgb ⊢
  clear F1 hg el
  go_loopw [41] (fun iv wr => ∃ k : Nat, k ≤ n ∧ iv = .int .i64 (k : Int) ∧ Hid (RowI wr g g n (fillK (fun i => l.getD i 0 % (p : Int)) n k)) ∧ Hid (Fr [g] w2 wr)) (fun iv _ => n - (intOf iv).toNat)
  case atStart => exact ⟨0, by omega, rfl, HR0, Lib.hid (Fr.refl _ _)⟩
  case round =>
    obtain ⟨k, hk, rfl, HR, HF⟩ := hrel
    have hbxr : wr.cell? ⟨w.heap.size, 0, none⟩ = some (.int .i64 (p : Int)) := (HF.out.cell (p := ⟨w.heap.size, 0, none⟩) (by show w.heap.size < _; omega) (by simp; omega)).trans hbx2
    have FW : Hid (Fr [] w wr) := Lib.hid (F2.out.own1 HF.out (by omega))
    by_cases hkn : k = n
    · have hkn' := hkn.symm
      subst hkn'
      have HR1 : Hid (RowI wr g g n (rowOf l p)) := Lib.hid (by
        have h := HR.out
        rw [fillK_full, HN.out] at h
        rw [HN.out]; exact h)
      have HRL : Hid ((rowOf l (p : Int)).length = n) := Lib.hid (by rw [rowOf_length, ← HN.out])
      have HRI : Hid (Ins p (rowOf l (p : Int))) := Lib.hid (rowOf_in (by omega))
      obtain ⟨row, hrow⟩ : ∃ row, row = rowOf l (p : Int) := ⟨_, rfl⟩
      rw [← hrow] at HR1 HRL HRI
      have HROW := Lib.hid hrow
      clear HXA HA HR hkn hk hrow HR0 hbx2 HF
      have HINV := Lib.hid (nine_inv HP.out)
      obtain ⟨w0, rfl⟩ : ∃ w0 : World, w0 = wr := ⟨_, rfl⟩
      go_wp2_with fail
      obtain ⟨B, hB⟩ : ∃ B, B = w0.heap.size := ⟨_, rfl⟩
      obtain ⟨w3, hw3⟩ : ∃ w3, w3 = (w0.alloc (.cells #[.int .i64 1] 2)).alloc (.cells #[.int .i64 1] 2) := ⟨_, rfl⟩
      have F03 : Hid (Fr [] w0 w3) := Lib.hid (by rw [hw3]; exact ((Fr.refl [] w0).alloc _).alloc _)
      have HN0 : Hid (OwI w3 B (.slice (some ⟨B, 0, none⟩) 1 1) [1]) := Lib.hid (by
        rw [hw3, hB]
        exact OwI_lit rfl rfl ((Below.heap_alloc _ _ _ (by simp)).trans (heap_alloc_new _ _)) (Nat.le_refl _) (by intro x hx; simp at hx; subst hx; unfold Ri; omega) (by simp))
      have HT0 : Hid (OwI w3 B (.slice (some ⟨B + 1, 0, none⟩) 1 1) [1]) := Lib.hid (by
        rw [hw3, hB]
        have h := heap_alloc_new (w0.alloc (.cells #[.int .i64 1] 2)) (.cells #[.int .i64 1] 2)
        rw [show (w0.alloc (.cells #[.int .i64 1] 2)).heap.size = w0.heap.size + 1 by simp] at h
        exact OwI_lit rfl rfl h (by omega) (by intro x hx; simp at hx; subst hx; unfold Ri; omega) (by simp))
      have HR3 := HR1
      have F3 := FW
      have hbx3 := Lib.hid hbxr
      have hB3 : w.heap.size < w0.heap.size := World.block_lt_of_cell? w0 _ hbx3.out
      have hg3 : g < w0.heap.size := HR3.out.lt.2
      have hgB : g < B := by rw [hB]; exact HR1.out.lt.2
      have hB5 : w0.heap.size ≤ B := by rw [hB]; exact Nat.le_refl _
      have hB4 : B ≤ w0.heap.size := by rw [hB]; exact Nat.le_refl _
      rw [← hw3, ← hB]
      have HBW : Hid (w.heap.size ≤ B) := Lib.hid (by rw [hB]; exact FW.out.size)
      clear hw3 hB HR1 hbxr FW F2
      have hShSt0 : Hid (ShSt B w3 (.slice (some ⟨B, 0, none⟩) 1 1) (.slice (some ⟨B + 1, 0, none⟩) 1 1) p row 0 (bmRun p row 0)) := Lib.hid ⟨BInv.start hp1 row, HN0.out, HT0.out, by simp [Value.ownBlock]⟩
      clear HN0 HT0
      go_loopw [11, 12, 13, 14, 15, 57] (fun nv tv zv sv wv iv wm => ∃ k : Nat, k ≤ n ∧ iv = .int .i64 (k : Int) ∧ zv = .int .i64 ((bmRun p row k).size : Int) ∧ sv = .int .i64 ((bmRun p row k).since : Int) ∧ wv = .int .i64 (bmRun p row k).was ∧
        Hid (ShSt B wm nv tv p row k (bmRun p row k)) ∧ Hid (Fr [] w0 wm)) (fun _ _ _ _ _ iv _ => n - (intOf iv).toNat)
      case atStart => exact ⟨0, by omega, rfl, rfl, rfl, rfl, hShSt0, F03⟩
      case round =>
        obtain ⟨k, hk, rfl, rfl, rfl, rfl, HS, HF⟩ := hrel
        obtain ⟨wm, rfl⟩ : ∃ wm : World, wm = wr := ⟨_, rfl⟩
        have hszm := HF.out.size
        have hbm : Hid (wm.cell? ⟨w.heap.size, 0, none⟩ = some (.int .i64 (p : Int))) := Lib.hid ((HF.out.cell (p := ⟨w.heap.size, 0, none⟩) hB3 (by simp)).trans hbx3.out)
        have HRm := Lib.hid (HR3.out.keep HF.out (by simp))
        by_cases hkn : k = n
        · have hkn' := hkn.symm
          subst hkn'
          obtain ⟨⟨now, tn, size, since, was⟩, hst⟩ : ∃ st, st = bmRun p row n := ⟨_, rfl⟩
          rw [← hst] at HS ⊢
          obtain ⟨⟨i_le, i_pos, i_one, i_len0, i_len, i_gen, i_now, i_tn, i_was, i_was0, i_tn0, i_tlen, i_old⟩, o_n, o_t, o_s⟩ := HS.out
          simp only at i_le i_pos i_one i_len0 i_len i_gen i_now i_tn i_was i_was0 i_tn0 i_tlen i_old o_n o_t
          have HINOW := Lib.hid i_now
          have HON := Lib.hid o_n
          obtain ⟨m, hm⟩ : ∃ m, m = now.length := ⟨_, rfl⟩
          obtain ⟨gn, cn, hnv, hgn1, hgn2, _⟩ := o_n.slot i_len0
          subst hnv
          rw [← hm] at i_len0 i_len HON ⊢
          have HM := Lib.hid hm
          have HST : Hid (bmRun p (rowOf l (p : Int)) l.length = ⟨now, tn, size, since, was⟩) := Lib.hid (by rw [← HROW.out, ← HN.out]; exact hst.symm)
          clear i_one i_gen i_now i_tn i_was i_was0 i_old o_n o_t o_s hm hst hkn HS hk i_tlen i_tn0 i_pos
          have FWm : Hid (Fr [] w wm) := Lib.hid (F3.out.trans0 HF.out)
          by_cases h2 : n < 2 * size
          · have e2 : decide ((n : Int) < 2 * (size : Int)) = true := by simp; omega
            have H2 := Lib.hid h2
            clear h2
            go_wp2
            go_ret2
            exact ⟨_, FWm.out, .inl ⟨by rw [HST.out, ← HN.out]; exact H2.out, rfl, rfl⟩⟩
          · have e2 : decide ((n : Int) < 2 * (size : Int)) = false := by simp; omega
            have H2 := Lib.hid h2
            clear h2
            go_wp2_with (at_make; refine wp_makeI rfl _ _ rfl _ _ size rfl rfl (by omega) (by omega) (by omega) wm.heap.size (Nat.le_refl _) ?_; intro w5 hown hgrow hsz5; have HO5 := Lib.hid hown; have HG5 := Lib.hid hgrow; clear hown hgrow)
            have hb5 : Hid (w5.cell? ⟨w.heap.size, 0, none⟩ = some (.int .i64 (p : Int))) := Lib.hid ((HG5.out.cell (p := ⟨w.heap.size, 0, none⟩) (World.block_lt_of_cell? wm _ hbm.out) (by simp)).trans hbm.out)
            have HON5 := Lib.hid (HON.out.keep0 HG5.out)
            have HZ0 : Hid (RowI w5 wm.heap.size wm.heap.size size (fillK (fun i => if i + 1 < m then (-(now.getD (i + 1) 0)) % (p : Int) else 0) size 0)) := Lib.hid ⟨fillK_length _ _ _, by rw [fillK_zero]; exact HO5.out⟩
            obtain ⟨go, hgo⟩ : ∃ go, go = wm.heap.size := ⟨_, rfl⟩
            have hgo1 : w.heap.size < go := by rw [hgo]; omega
            have hgo2 : gn < go := by rw [hgo]; exact hgn2
            rw [← hgo] at HZ0 ⊢
            have F5 : Hid (Fr [] w w5) := Lib.hid (FWm.out.trans0 HG5.out)
            rw [← hgo] at hsz5
            clear HO5 HG5 hgo
            go_wp2_with fail
            go_loopw [154] (fun iv wi => ∃ j : Nat, j ≤ size ∧ iv = .int .i64 (j : Int) ∧ Hid (RowI wi go go size (fillK (fun i => if i + 1 < m then (-(now.getD (i + 1) 0)) % (p : Int) else 0) size j)) ∧ Hid (Fr [go] w5 wi)) (fun iv _ => size - (intOf iv).toNat)
            case atStart => exact ⟨0, by omega, rfl, HZ0, Lib.hid (Fr.refl _ _)⟩
            case round =>
              obtain ⟨j, hj, rfl, HZ, HFZ⟩ := hrel
              obtain ⟨wi, rfl⟩ : ∃ wi : World, wi = wr := ⟨_, rfl⟩
              have FWi : Hid (Fr [] w wi) := Lib.hid (F5.out.own1 HFZ.out (by omega))
              by_cases hjs : j = size
              · subst hjs
                go_wp2
                go_ret2
                refine ⟨_, FWi.out, .inr ⟨by rw [HST.out, ← HN.out]; have := H2.out; simp only; omega, ?_, rfl⟩⟩
                have h := HZ.out.2.base_le (show w.heap.size ≤ go by omega)
                rw [fillK_full] at h
                rw [HST.out]
                unfold bmOut
                rw [← HM.out]
                exact h
              · have hjs2 : j < size := by omega
                obtain ⟨z0, hz0⟩ : ∃ z0, wi.cell? ⟨go, j, none⟩ = some z0 := ⟨_, HZ.out.cell hjs2⟩
                by_cases hjm : j + 1 < m
                · have hcn := (HON5.out.sl).get' (k := j + 1) hjm
                  rw [Nat.zero_add] at hcn
                  have hcn2 := (HFZ.out.cell (p := ⟨gn, j + 1, none⟩) (World.block_lt_of_cell? w5 _ hcn) (by simp; omega)).trans hcn
                  have hbi := (HFZ.out.cell (p := ⟨w.heap.size, 0, none⟩) (World.block_lt_of_cell? w5 _ hb5.out) (by simp; omega)).trans hb5.out
                  have hin := HINOW.out.get (by omega) (j + 1)
                  have hset := fillK_set (fun i => if i + 1 < m then (-(now.getD (i + 1) 0)) % (p : Int) else 0) hjs2
                  simp only [if_pos hjm] at hset
                  obtain ⟨c, hc⟩ : ∃ c, c = now.getD (j + 1) 0 := ⟨_, rfl⟩
                  rw [← hc] at hcn2 hin hset
                  obtain ⟨hin0, hin1⟩ := hin
                  have HC := Lib.hid (shortMod_any w.heap.size (-c) p wi (by unfold Ri; omega) hp1 hpb hbi)
                  obtain ⟨y, hy⟩ : ∃ y, y = (-c) % (p : Int) := ⟨_, rfl⟩
                  have hy0 := Int.emod_nonneg (-c) (show (p : Int) ≠ 0 by omega)
                  have hy1 := Int.emod_lt_of_pos (-c) (show (0 : Int) < p by omega)
                  rw [← hy] at HC hset hy0 hy1
                  have HSET := Lib.hid hset
                  have hji : (j : Int) + 1 = ((j + 1 : Nat) : Int) := by omega
                  have HJI := Lib.hid hji
                  clear hc hy hset hcn hbi hjs hji
                  go_wp2_with (go_at_call 12; refine HC.out.mono ?_; rintro e w' ⟨rfl, nd, rfl⟩; have hfz : ∀ j, (wi.drewN nd).frozen? ⟨go, j, none⟩ = false := (HZ.out.keep ((Fr.refl [] wi).drewN nd) (by simp)).frozen (by omega))
                  go_roundw
                  case rel => exact ⟨j + 1, by omega, by go_num, Lib.hid (by
                    have h := (HZ.out.keep ((Fr.refl [] wi).drewN nd) (by simp)).store j y (by unfold Ri; omega)
                    rw [HSET.out] at h
                    exact h), Lib.hid ((HFZ.out.drewN nd).setCell (by simp) _)⟩
                  case measure => simp [intOf]; omega
                · have hskip := fillK_skip (fun i => if i + 1 < m then (-(now.getD (i + 1) 0)) % (p : Int) else 0) (n := size) (k := j) (by simp only [if_neg hjm])
                  have HSK := Lib.hid hskip
                  clear hskip hjs
                  go_wp2
                  go_roundw
                  case rel => exact ⟨j + 1, by omega, by go_num, Lib.hid (by rw [← HSK.out]; exact HZ.out), HFZ⟩
                  case measure => simp [intOf]; omega
        · have hkn2 : k < n := by omega
          have HSTEP : Hid (bmRun p row (k + 1) = bmStep p row k (bmRun p row k)) := Lib.hid rfl
          obtain ⟨⟨now, tn, size, since, was⟩, hst⟩ : ∃ st, st = bmRun p row k := ⟨_, rfl⟩
          rw [← hst] at HS HSTEP ⊢
          obtain ⟨⟨i_le, i_pos, i_one, i_len0, i_len, i_gen, i_now, i_tn, i_was, i_was0, i_tn0, i_tlen, i_old⟩, o_n, o_t, o_s⟩ := HS.out
          simp only at i_le i_pos i_one i_len0 i_len i_gen i_now i_tn i_was i_was0 i_tn0 i_tlen i_old o_n o_t
          have HINOW := Lib.hid i_now
          have HITN := Lib.hid i_tn
          have HIWAS := Lib.hid (And.intro i_was i_was0)
          have HON := Lib.hid o_n
          have HOT := Lib.hid o_t
          have HSEP := Lib.hid o_s
          have HNX : Hid (BInv p row (k + 1) (bmRun p row (k + 1))) := Lib.hid (bmRun_inv hp1 HINV.out row (k + 1))
          obtain ⟨m, hm⟩ : ∃ m, m = now.length := ⟨_, rfl⟩
          obtain ⟨gn, cn, hnv, hgn1, hgn2, _⟩ := o_n.slot i_len0
          subst hnv
          rw [← hm] at i_len0 i_len HON HSEP ⊢
          have HM := Lib.hid hm
          clear i_one i_gen i_now i_tn i_was i_was0 i_old o_n o_t o_s hm hst hkn HS
          go_wp2_with fail
          go_loopw [17, 62] (fun ov jv wi => ∃ j : Nat, j ≤ m ∧ jv = .int .i64 (j : Int) ∧ ov = .int .i64 (bmOff p now row k j) ∧ Hid (∃ q, wi = wm.drewN q)) (fun _ jv _ => m - (intOf jv).toNat)
          case atStart => exact ⟨0, by omega, rfl, rfl, Lib.hid ⟨0, rfl⟩⟩
          case round =>
            obtain ⟨j, hj, rfl, rfl, HQ⟩ := hrel
            obtain ⟨q, rfl⟩ := HQ.out
            by_cases hjm : j = m
            · have hjm' := hjm.symm
              subst hjm'
              have hoff := bmOff_in (p := (p : Int)) (by omega) now row k m
              obtain ⟨of, hof⟩ : ∃ of, of = bmOff p now row k m := ⟨_, rfl⟩
              rw [← hof] at hoff ⊢
              have HOF : Hid (bmOff p now row k now.length = of) := Lib.hid (by rw [← HM.out]; exact hof.symm)
              obtain ⟨wq, hwq⟩ : ∃ wq, wq = wm.drewN q := ⟨_, rfl⟩
              have FQ : Hid (Fr [] wm wq) := Lib.hid (by rw [hwq]; exact (Fr.refl [] wm).drewN q)
              rw [← hwq]
              have hszq := FQ.out.size
              clear hof hwq HQ hjm hj
              by_cases h0 : of = 0
              · have HE : Hid (bmRun p row (k + 1) = ⟨now, tn, size, since + 1, was⟩) := Lib.hid (by rw [HSTEP.out]; unfold bmStep; rw [if_pos (by rw [HOF.out]; exact h0)])
                have e0 : (of == 0) = true := by simp [h0]
                clear h0 hoff
                go_wp2_with fail
                go_roundw
                case rel => exact ⟨k + 1, by omega, by go_num, by rw [HE.out], by rw [HE.out]; go_num, by rw [HE.out], Lib.hid ⟨HNX.out, by rw [HE.out]; show OwI wq B _ now; rw [HM.out] at HON; rw [HM.out]; exact HON.out.keep0 FQ.out, by rw [HE.out]; exact HOT.out.keep0 FQ.out, by rw [HM.out]; rw [HM.out] at HSEP; exact HSEP.out⟩, Lib.hid (HF.out.trans0 FQ.out)⟩
                case measure => simp [intOf]; omega
              · have e0 : (of == 0) = false := by simpa using h0
                have H0 := Lib.hid h0
                clear h0
                go_wp2_with fail
                refine (cloneI_any _ now wq (by have h := HON.out.sl.keep0 FQ.out; exact h) (by rw [← HM.out]; exact i_len0) (by rw [← HM.out]; omega)).mono ?_
                rintro e w5 ⟨av, rfl, ho, hf⟩
                have HOA := Lib.hid ho
                have F5 : Hid (Fr [] wm w5) := Lib.hid (FQ.out.trans0 hf)
                have hsz5 := hf.size
                clear ho hf
                obtain ⟨wn, hwn⟩ : ∃ wn : Nat, was = (wn : Int) := ⟨was.toNat, by have := HIWAS.out.1.1; omega⟩
                subst hwn
                have HWN : Hid (wn < p ∧ wn ≠ 0) := Lib.hid (by have h1 := HIWAS.out.1.2; have h2 := HIWAS.out.2; exact ⟨by omega, by omega⟩)
                have hb5 : Hid (w5.cell? ⟨w.heap.size, 0, none⟩ = some (.int .i64 (p : Int))) := Lib.hid ((F5.out.cell (p := ⟨w.heap.size, 0, none⟩) (World.block_lt_of_cell? wm _ hbm.out) (by simp)).trans hbm.out)
                have hge5 : wm.heap.size ≤ w5.heap.size := F5.out.size
                go_wp2_with fail
                refine (shortInv_any w.heap.size wn p w5 HWN.out.1 (nine_coprime HP.out (by have := HWN.out.2; omega) HWN.out.1) hp1 hpb hb5.out).mono ?_
                rintro e w6 ⟨v, hv1, hv2, rfl, hf⟩
                have F6 : Hid (Fr [] w5 w6) := Lib.hid hf
                have HPI : Hid (pinv p (wn : Int) = v) := Lib.hid (pinv_eq hv1 hv2)
                obtain ⟨hof0, hof1⟩ := hoff
                obtain ⟨pr, hpr⟩ : ∃ pr, pr = of * (v : Int) := ⟨_, rfl⟩
                have hprb : 0 ≤ pr ∧ pr ≤ 4611686018427387904 := by
                  rw [hpr]
                  refine ⟨Int.mul_nonneg hof0 (by omega), ?_⟩
                  have := Int.mul_le_mul (a := of) (b := (v : Int)) (c := 2147483648) (d := 2147483648) (by omega) (by omega) (by omega) (by omega)
                  omega
                obtain ⟨hpr0, hpr1⟩ := hprb
                have e1 : of * (v : Int) = pr := hpr.symm
                have hb6 : Hid (w6.cell? ⟨w.heap.size, 0, none⟩ = some (.int .i64 (p : Int))) := Lib.hid ((hf.cell (p := ⟨w.heap.size, 0, none⟩) (World.block_lt_of_cell? w5 _ hb5.out) (by simp)).trans hb5.out)
                have HC := Lib.hid (shortMod_any w.heap.size pr p w6 (by unfold Ri; omega) hp1 hpb hb6.out)
                have hbb := In.mod (p := (p : Int)) (by omega) pr
                obtain ⟨bb, hbbd⟩ : ∃ bb, bb = pr % (p : Int) := ⟨_, rfl⟩
                rw [← hbbd] at HC hbb
                have HBB : Hid (of * pinv p (wn : Int) % (p : Int) = bb) := Lib.hid (by rw [HPI.out, e1, hbbd])
                clear hpr hbbd hv1 hv2 hf
                go_wp2_with (go_at_call 12; refine HC.out.mono ?_; rintro e w' ⟨rfl, nd, rfl⟩)
                clear HC HPI e1
                obtain ⟨w7, hw7⟩ : ∃ w7, w7 = w6.drewN nd := ⟨_, rfl⟩
                have F7 : Hid (Fr [] w5 w7) := Lib.hid (by rw [hw7]; exact F6.out.drewN nd)
                rw [← hw7]
                clear hw7 F6 hb6 hpr0 hpr1
                have Fm7 : Hid (Fr [] wm w7) := Lib.hid (F5.out.trans0 F7.out)
                have HON7 := Lib.hid (HON.out.keep0 Fm7.out)
                have HOT7 := Lib.hid (HOT.out.keep0 Fm7.out)
                have HOA7 := Lib.hid (HOA.out.keep0 F7.out)
                have F37 : Hid (Fr [] w0 w7) := Lib.hid (HF.out.trans0 Fm7.out)
                have hsz7 := Fm7.out.size
                obtain ⟨T, hTd⟩ : ∃ T, T = tn.length := ⟨_, rfl⟩
                rw [← hTd] at i_tn0 i_tlen
                obtain ⟨gt, ct, htv, hgt1, hgt2, hgt3⟩ := HOT7.out.slot (by rw [← hTd]; exact i_tn0)
                rw [← hTd] at htv
                have HTD := Lib.hid hTd
                obtain ⟨ga, cca, hav, hga1, hga2, hga3⟩ := HOA7.out.slot (by rw [← HM.out]; exact i_len0)
                have HAV := Lib.hid hav
                have HGA := Lib.hid hga3
                have HGT := Lib.hid hgt3
                subst htv
                have hsep1 : gn ≠ gt := by have h := HSEP.out; rw [HGT.out] at h; simpa [Value.ownBlock] using h
                have hsep2 : gn ≠ ga := by omega
                have hsep3 : gt ≠ ga := by
                  have := HOT.out.slot (by rw [← HTD.out]; exact i_tn0)
                  obtain ⟨g', c', e', h1', h2', h3'⟩ := this
                  have : gt = g' := by have h := HGT.out; rw [h3'] at h; simpa using h.symm
                  omega
                clear hTd hav hga3 hgt3 HOA F5 hb5 hsz5 hge5 HON HOT FQ
                obtain ⟨M, hMd⟩ : ∃ M, M = T + since := ⟨_, rfl⟩
                have hM1 : M ≤ 10000 := by omega
                have HMD := Lib.hid hMd
                have hszw0 := F37.out.size
                have hm1 : m ≤ 10000 := by omega
                clear hMd
                go_wp2_with fail
                go_loopw [11] (fun nv wi => ∃ j : Nat, j ≤ M - m ∧ Hid (OwI wi B nv (now ++ List.replicate j 0)) ∧ Hid (nv.ownBlock ≠ some gt ∧ nv.ownBlock ≠ some ga) ∧ Hid (OwI wi B (.slice (some ⟨gt, 0, none⟩) T ct) tn) ∧ Hid (OwI wi wq.heap.size av now) ∧ Hid (Fr [] w0 wi) ∧ Hid (w7.heap.size ≤ wi.heap.size)) (fun nv _ => M - lenV nv)
                case atStart => exact ⟨0, by omega, Lib.hid (by rw [List.replicate_zero, List.append_nil]; exact HON7.out), Lib.hid ⟨by simp [Value.ownBlock]; omega, by simp [Value.ownBlock]; omega⟩, HOT7, HOA7, F37, Lib.hid (Nat.le_refl _)⟩
                case round =>
                  obtain ⟨j, hj, HX, HSP, HT2, HA2, HF2, HZ7⟩ := hrel
                  obtain ⟨wi, rfl⟩ : ∃ wi : World, wi = wr := ⟨_, rfl⟩
                  have hlen : (now ++ List.replicate j (0 : Int)).length = m + j := by rw [List.length_append, List.length_replicate, HM.out]
                  obtain ⟨gx, cx, hnv, hgx1, hgx2, hgx3⟩ := HX.out.slot (by omega)
                  rw [hlen] at hnv
                  subst hnv
                  have HLEN := Lib.hid hlen
                  have hsepx : gx ≠ gt ∧ gx ≠ ga := by have h := HSP.out; simpa [Value.ownBlock] using h
                  have hz7 := HZ7.out
                  clear hlen hgx3
                  by_cases hjM : m + j < M
                  · have hlt : ((m + j : Nat) : Int) < (T : Int) + (since : Int) := by have := HMD.out; omega
                    go_wp2_with (at_builtin; refine wp_appendIat rfl _ _ rfl B _ (now ++ List.replicate j 0) rfl (HX.out.keep0 ((Fr.refl [] wi).alloc _)) wi.heap.size 0 1 [0] rfl (by intro j hj; match j, hj with | 0, _ => simp [World.cell?_alloc_new]) (by intro z hz; simp at hz; subst hz; unfold Ri; omega) (by rw [HLEN.out]; simp; omega) (by simp; omega) ?_; intro v' w2 ho hfr hat; have HO2 := Lib.hid ho; have HFR : Hid (Fr [gx] (wi.alloc (.cells #[.int .i64 0] 2)) w2) := Lib.hid (by exact hfr); have HAT : Hid (v'.ownBlock = some gx ∨ v'.ownBlock = some (wi.heap.size + 1)) := Lib.hid (hat.elim (fun h => .inl h) (fun h => .inr (h.trans (by simp)))); clear ho hfr hat)
                    have HB1 : Hid (Fr [] w0 w2) := Lib.hid ((HF2.out.alloc _).trans HFR.out (by intro x hx hlt; simp at hx; omega))
                    have hsz2 := HFR.out.size
                    go_roundw
                    case rel => exact ⟨j + 1, by omega, Lib.hid (by have h := HO2.out; rw [List.append_assoc, ← List.replicate_succ'] at h; exact h), Lib.hid (by
                      rcases HAT.out with h | h
                      · rw [h]; exact ⟨by simpa using hsepx.1, by simpa using hsepx.2⟩
                      · rw [h]; simp; omega), Lib.hid ((HT2.out.keep0 ((Fr.refl [] wi).alloc _)).keep HFR.out (by intro k hk; simp [Value.ownBlock] at hk; simp; omega)), Lib.hid ((HA2.out.keep0 ((Fr.refl [] wi).alloc _)).keep HFR.out (by intro k hk; rw [HGA.out] at hk; simp at hk; simp; omega)), HB1, Lib.hid (by simp at hsz2; omega)⟩
                    case measure =>
                      have hl2 : lenV v' = m + (j + 1) := by
                        have hl3 : (now ++ List.replicate j (0 : Int) ++ [0]).length = m + (j + 1) := by rw [List.length_append, HLEN.out]; rfl
                        obtain ⟨g2, c2, hv2, _⟩ := HO2.out.slot (by rw [hl3]; omega)
                        rw [hv2, hl3]; rfl
                      rw [hl2]; simp only [lenV]; omega
                  · have hjE : j = M - m := by omega
                    obtain ⟨LZ, hLZ⟩ : ∃ LZ, LZ = m + j := ⟨_, rfl⟩
                    obtain ⟨Z, hZ⟩ : ∃ Z, Z = now ++ List.replicate j (0 : Int) := ⟨_, rfl⟩
                    have HPAD : Hid (bmPad now (tn.length + since) = Z) := Lib.hid (by rw [hZ]; unfold bmPad; rw [← HTD.out, ← HMD.out, ← HM.out, hjE])
                    rw [← hLZ, ← hZ] at HX HLEN
                    rw [← hLZ]
                    have HINZ : Hid (Ins p Z) := Lib.hid (by rw [← HPAD.out]; exact HINOW.out.pad (by omega) _)
                    have hTs : T + since ≤ LZ := by have := HMD.out; omega
                    have hLZb : LZ ≤ 20000 := by omega
                    have hge : ¬ ((LZ : Int) < (T : Int) + (since : Int)) := by omega
                    clear hjE hZ hLZ hjM hj
                    go_wp2_with fail
                    go_loopw [108] (fun iv wj => ∃ i : Nat, i ≤ T ∧ iv = .int .i64 (i : Int) ∧ Hid (OwI wj B (.slice (some ⟨gx, 0, none⟩) LZ cx) (bmMix p bb since tn Z i)) ∧ Hid (Fr [gx] wi wj)) (fun iv _ => T - (intOf iv).toNat)
                    case atStart => exact ⟨0, by omega, rfl, HX, Lib.hid (Fr.refl _ _)⟩
                    case round =>
                      obtain ⟨i, hi, rfl, HXm, HFM⟩ := hrel
                      obtain ⟨wj, rfl⟩ : ∃ wj : World, wj = wr := ⟨_, rfl⟩
                      have HLM : Hid ((bmMix p bb since tn Z i).length = LZ) := Lib.hid (by rw [bmMix_length, HLEN.out])
                      by_cases hiT : i = T
                      · have hiT' := hiT.symm
                        subst hiT'
                        obtain ⟨X, hX⟩ : ∃ X, X = bmMix p bb since tn Z T := ⟨_, rfl⟩
                        rw [← hX] at HXm HLM
                        have HXD : Hid (bmMix (p : Int) (bmOff p now row k now.length * pinv p (wn : Int) % (p : Int)) since tn (bmPad now (tn.length + since)) tn.length = X) := Lib.hid (by rw [HOF.out, HBB.out, HPAD.out, ← HTD.out]; exact hX.symm)
                        have HOF0 : Hid (¬ bmOff p now row k now.length = 0) := Lib.hid (by rw [HOF.out]; exact H0.out)
                        have HTj : Hid (OwI wj B (.slice (some ⟨gt, 0, none⟩) T ct) tn) := Lib.hid (HT2.out.keep HFM.out (by intro x hx; simp [Value.ownBlock] at hx; simp; omega))
                        have HAj : Hid (OwI wj B av now) := Lib.hid ((HA2.out.keep HFM.out (by intro x hx; rw [HGA.out] at hx; simp at hx; simp; omega)).base_le (by omega))
                        have HFj : Hid (Fr [] w0 wj) := Lib.hid (HF2.out.own1 HFM.out (by omega))
                        have HSPj : Hid (gx ≠ gt ∧ gx ≠ ga) := Lib.hid hsepx
                        clear hX hiT hi
                        by_cases h2 : k < 2 * size
                        · have HE : Hid (bmRun p row (k + 1) = ⟨X, tn, size, since + 1, (wn : Int)⟩) := Lib.hid (by
                            rw [HSTEP.out]
                            unfold bmStep
                            simp only
                            rw [if_neg HOF0.out, if_pos h2, HXD.out])
                          have e2 : decide ((k : Int) < 2 * (size : Int)) = true := by simp; omega
                          clear h2
                          go_wp2_with fail
                          go_roundw
                          case rel => exact ⟨k + 1, by omega, by go_num, by rw [HE.out], by rw [HE.out]; go_num, by rw [HE.out], Lib.hid ⟨HNX.out, by rw [HE.out]; exact HXm.out, by rw [HE.out]; exact HTj.out, by simpa [Value.ownBlock] using HSPj.out.1⟩, HFj⟩
                          case measure => simp [intOf]; omega
                        · have HE : Hid (bmRun p row (k + 1) = ⟨X, now, k + 1 - size, 1, of⟩) := Lib.hid (by
                            rw [HSTEP.out]
                            unfold bmStep
                            simp only
                            rw [if_neg HOF0.out, if_neg h2, HXD.out, HOF.out])
                          have e2 : decide ((k : Int) < 2 * (size : Int)) = false := by simp; omega
                          have hks : (k : Int) + 1 - size = ((k + 1 - size : Nat) : Int) := by omega
                          have HKS := Lib.hid hks
                          clear h2 hks
                          go_wp2_with fail
                          go_roundw
                          case rel => exact ⟨k + 1, by omega, by go_num, by rw [HE.out, ← HKS.out], by rw [HE.out]; rfl, by rw [HE.out], Lib.hid ⟨HNX.out, by rw [HE.out]; exact HXm.out, by rw [HE.out]; exact HAj.out, by rw [HGA.out]; simpa [Value.ownBlock] using HSPj.out.2⟩, HFj⟩
                          case measure => simp [intOf]; omega
                      · have hiT2 : i < T := by omega
                        have hct := HT2.out.sl.get' (k := i) hiT2
                        rw [Nat.zero_add] at hct
                        have hct2 := (HFM.out.cell (p := ⟨gt, i, none⟩) (World.block_lt_of_cell? wi _ hct) (by simp; omega)).trans hct
                        have hcz := HXm.out.sl.get' (k := i + since) (by omega)
                        rw [Nat.zero_add] at hcz
                        have hfz := HXm.out.frozenN HLM.out (by omega)
                        have hinc := HITN.out.get (by omega) i
                        have hinz := (Ins.mix (by omega) HINZ.out i (b := bb) (m := since) (tn := tn)).get (by omega) (i + since)
                        have hnx : bmMix p bb since tn Z (i + 1) = (bmMix p bb since tn Z i).set (i + since) (((bmMix p bb since tn Z i).getD (i + since) 0 - bb * tn.getD i 0 % p) % p) := rfl
                        obtain ⟨c, hc⟩ : ∃ c, c = tn.getD i 0 := ⟨_, rfl⟩
                        obtain ⟨z, hz⟩ : ∃ z, z = (bmMix p bb since tn Z i).getD (i + since) 0 := ⟨_, rfl⟩
                        rw [← hc] at hct2 hinc hnx
                        rw [← hz] at hcz hinz hnx
                        obtain ⟨hc0, hc1⟩ := hinc
                        obtain ⟨hz0, hz1⟩ := hinz
                        obtain ⟨hb0, hb1⟩ := hbb
                        have hbw0 : Hid (w0.cell? ⟨w.heap.size, 0, none⟩ = some (.int .i64 (p : Int))) := hbx3
                        have hbj : wj.cell? ⟨w.heap.size, 0, none⟩ = some (.int .i64 (p : Int)) := (HFM.out.cell (p := ⟨w.heap.size, 0, none⟩) (by show w.heap.size < _; omega) (by simp; omega)).trans ((HF2.out.cell (p := ⟨w.heap.size, 0, none⟩) hB3 (by simp)).trans hbx3.out)
                        obtain ⟨pr, hpr⟩ : ∃ pr, pr = bb * c := ⟨_, rfl⟩
                        have hprb : 0 ≤ pr ∧ pr ≤ 4611686018427387904 := by
                          rw [hpr]
                          refine ⟨Int.mul_nonneg hb0 hc0, ?_⟩
                          have := Int.mul_le_mul (a := bb) (b := c) (c := 2147483648) (d := 2147483648) (by omega) (by omega) (by omega) (by omega)
                          omega
                        obtain ⟨hpr0, hpr1⟩ := hprb
                        rw [← hpr] at hnx
                        have e1 : IntKind.i64.wrap (bb * c) = pr := by rw [← hpr]; exact IntWalk.i64_in _ (by omega)
                        obtain ⟨pm, hpm⟩ : ∃ pm, pm = pr % (p : Int) := ⟨_, rfl⟩
                        have hpm0 := Int.emod_nonneg pr (show (p : Int) ≠ 0 by omega)
                        have hpm1 := Int.emod_lt_of_pos pr (show (0 : Int) < p by omega)
                        rw [← hpm] at hpm0 hpm1 hnx
                        have e2 : pr.tmod (p : Int) = pm := by rw [Int.tmod_eq_emod_of_nonneg (by omega), hpm]
                        have e3 : IntKind.i64.wrap (z - pm) = z - pm := IntWalk.i64_in _ (by omega)
                        have hpz : ¬ p = 0 := by omega
                        have e4 : IntKind.i64.wrap ((i : Int) + since) = (i : Int) + since := IntWalk.i64_in _ (by omega)
                        have e5 : ((i : Int) + since).toNat = i + since := by omega
                        have e6 : 0 ≤ (i : Int) + since := by omega
                        have e7 : (i : Int) + since < LZ := by omega
                        have HC := Lib.hid (fun nd => shortMod_any w.heap.size (z - pm) p (wj.drewN nd) (by unfold Ri; omega) hp1 hpb hbj)
                        obtain ⟨y, hy⟩ : ∃ y, y = (z - pm) % (p : Int) := ⟨_, rfl⟩
                        have hy0 := Int.emod_nonneg (z - pm) (show (p : Int) ≠ 0 by omega)
                        have hy1 := Int.emod_lt_of_pos (z - pm) (show (0 : Int) < p by omega)
                        rw [← hy] at HC hy0 hy1 hnx
                        have HNX3 := Lib.hid hnx
                        have HIT := Lib.hid hiT
                        clear hpr hpm hy hc hz hct hnx hiT
                        go_wp2_with fail
                        refine wp_region_lexP [(0, false), (1, false), (2, false), (3, false), (4, false), (5, false), (6, false), (7, false), (8, false), (9, false), (10, false), (11, false), (12, false), (13, false), (14, false), (15, false), (16, false), (17, true), (18, false), (19, true)] (fun w' => w'.cell? ⟨w.heap.size, 0, none⟩ = some (.int .i64 (p : Int)) ∧ w'.cell? ⟨gx, i + since, none⟩ = some (.int .i64 z)) 19 (by kernel_rfl) (by kernel_rfl) (fun _ _ d _ _ h => by cases d <;> exact h) ⟨hbj, hcz⟩ ?_
                        iterate 17 (refine lexP_yield (by rfl) (by rfl) (by intro w hSw; (try dsimp only at hSw); go_simp; (try rfl)) ?_; simp only [Act.put, List.setIfInBounds_toArray, List.set_cons_zero, List.set_cons_succ])
                        refine lexP_step (by rfl) (by rfl) (fun K hK => ?_)
                        go_simp
                        go_at_call 12
                        refine (HC.out 1).mono ?_
                        rintro e w' ⟨rfl, nd, rfl⟩
                        refine hK.out _ _ (fun _ => ⟨hbj, hcz⟩) ?_
                        clear hK K
                        try simp only [Act.put, List.setIfInBounds_toArray, List.set_cons_zero, List.set_cons_succ]
                        refine lexP_yield (by rfl) (by rfl) (by intro w hSw; (try dsimp only at hSw); go_simp; (try rfl)) ?_
                        simp only [Act.put, List.setIfInBounds_toArray, List.set_cons_zero, List.set_cons_succ]
                        refine lexP_step (by rfl) (by rfl) (fun K hK => ?_)
                        go_simp
                        refine hK.out _ _ (fun h => absurd h (by decide)) ?_
                        clear hK K
                        refine lexP_done ?_
                        go_wp2_with fail
                        go_roundw
                        case rel => exact ⟨i + 1, by omega, by go_num, Lib.hid (by
                          rw [HNX3.out]
                          exact (HXm.out.keep0 ((Fr.refl [] wj).drewN (1 + nd))).storeN HLM.out (i + since) y (by unfold Ri; omega)), Lib.hid ((HFM.out.drewN (1 + nd)).setCell (by simp) _)⟩
                        case measure => simp [intOf]; omega
            · have hjm2 : j < m := by omega
              have hcn := (HON.out.sl).get' (k := j) hjm2
              rw [Nat.zero_add] at hcn
              have hin := HINOW.out.get (by omega) j
              have hoff := bmOff_in (p := (p : Int)) (by omega) now row k j
              by_cases hjk : j ≤ k
              · have hcr := HRm.out.cell (k := k - j) (by omega)
                have hir := HRI.out.get (by omega) (k - j)
                have hnx : bmOff p now row k (j + 1) = (bmOff p now row k j + now.getD j 0 * row.getD (k - j) 0) % p := by rw [bmOff, if_pos hjk]
                obtain ⟨c, hc⟩ : ∃ c, c = now.getD j 0 := ⟨_, rfl⟩
                obtain ⟨r, hr⟩ : ∃ r, r = row.getD (k - j) 0 := ⟨_, rfl⟩
                obtain ⟨of, hof⟩ : ∃ of, of = bmOff p now row k j := ⟨_, rfl⟩
                rw [← hc] at hcn hin hnx
                rw [← hr] at hcr hir hnx
                rw [← hof] at hoff hnx ⊢
                have hcnq : (wm.drewN q).cell? ⟨gn, j, none⟩ = some (.int .i64 c) := hcn
                have hcrq : (wm.drewN q).cell? ⟨g, k - j, none⟩ = some (.int .i64 r) := hcr
                obtain ⟨pr, hpr⟩ : ∃ pr, pr = c * r := ⟨_, rfl⟩
                have hpr0 : 0 ≤ pr ∧ pr ≤ 4611686018427387904 := by
                  obtain ⟨hc0, hc1⟩ := hin
                  obtain ⟨hr0, hr1⟩ := hir
                  rw [hpr]
                  refine ⟨Int.mul_nonneg hc0 hr0, ?_⟩
                  have := Int.mul_le_mul (a := c) (b := r) (c := 2147483648) (d := 2147483648) (by omega) (by omega) hr0 (by omega)
                  omega
                rw [← hpr] at hnx
                have hp1' : c * r = pr := hpr.symm
                obtain ⟨of0, of1⟩ := hoff
                obtain ⟨pr0, pr1⟩ := hpr0
                have HC := Lib.hid (shortMod_any w.heap.size (of + pr) p (wm.drewN q) (by unfold Ri; omega) hp1 hpb hbm.out)
                obtain ⟨on, hon⟩ : ∃ on, on = (of + pr) % (p : Int) := ⟨_, rfl⟩
                rw [← hon] at hnx HC
                have HNX2 := Lib.hid hnx
                have hkj : (k : Int) - j = ((k - j : Nat) : Int) := by omega
                have HKJ := Lib.hid hkj
                clear hc hr hof hpr hnx hon hcn hcr hjm hin hir hkj
                go_wp2_with (go_at_call 12; refine HC.out.mono ?_; rintro e w' ⟨rfl, nd, rfl⟩)
                go_roundw
                case rel => exact ⟨j + 1, by omega, by go_num, by rw [HNX2.out], Lib.hid ⟨q + nd, by simp [World.drewN_drewN]⟩⟩
                case measure => simp [intOf]; omega
              · have hnx : bmOff p now row k (j + 1) = bmOff p now row k j := by rw [bmOff, if_neg hjk]
                have HNX2 := Lib.hid hnx
                obtain ⟨c, hc⟩ : ∃ c, c = now.getD j 0 := ⟨_, rfl⟩
                obtain ⟨of, hof⟩ : ∃ of, of = bmOff p now row k j := ⟨_, rfl⟩
                rw [← hc] at hcn
                rw [← hof] at HNX2 ⊢
                have hcnq : (wm.drewN q).cell? ⟨gn, j, none⟩ = some (.int .i64 c) := hcn
                clear hc hof hnx hcn hin hoff hjm
                go_wp2
                go_roundw
                case rel => exact ⟨j + 1, by omega, by go_num, by rw [HNX2.out], Lib.hid ⟨q, rfl⟩⟩
                case measure => simp [intOf]; omega
    · have hkn2 : k < n := by omega
      obtain ⟨b, o, rfl, hx2⟩ := HXA.out (by omega)
      have hcx := hx2 k hkn2
      have hrx := HA.out.ri k
      obtain ⟨x, hx⟩ : ∃ x, x = l.getD k 0 := ⟨_, rfl⟩
      rw [← hx] at hcx hrx
      have hcx2 : wr.cell? ⟨b, o + k, none⟩ = some (.int .i64 x) := (FW.out.cell (World.block_lt_of_cell? w _ hcx) (by simp)).trans hcx
      have HC := Lib.hid (shortMod_any w.heap.size x p wr hrx hp1 hpb hbxr)
      have hxm := Int.emod_nonneg x (show (p : Int) ≠ 0 by omega)
      have hxm2 := Int.emod_lt_of_pos x (show (0 : Int) < p by omega)
      obtain ⟨y, hy⟩ : ∃ y, y = x % (p : Int) := ⟨_, rfl⟩
      rw [← hy] at HC hxm hxm2
      have HY : Hid (y = l.getD k 0 % (p : Int)) := Lib.hid (by rw [hy, hx])
      obtain ⟨z0, hz0⟩ : ∃ z0, wr.cell? ⟨g, k, none⟩ = some z0 := ⟨_, HR.out.cell hkn2⟩
      clear hkn hx2 hcx hx hy hrx
      go_wp2_with (go_at_call 12; refine HC.out.mono ?_; rintro e w' ⟨rfl, nd, rfl⟩; have hfz : ∀ j, (wr.drewN nd).frozen? ⟨g, j, none⟩ = false := (HR.out.keep ((Fr.refl [] wr).drewN nd) (by simp)).frozen (by omega))
      go_roundw
      case rel => exact ⟨k + 1, by omega, by go_num, Lib.hid (by
        have h := (HR.out.keep ((Fr.refl [] wr).drewN nd) (by simp)).store k y (by unfold Ri; omega)
        rw [HY.out, fillK_set (fun i => l.getD i 0 % (p : Int)) hkn2] at h
        rw [HY.out]
        exact h), Lib.hid ((HF.out.drewN nd).setCell (by simp) _)⟩
      case measure => simp [intOf]; omega
end Go.Proofs.YtedoeadhbcjjgaaDoor
