/- Joined by program (merge.py) out of 1 texts, a part of the proof: contracts of the functions that the statement reaches, and plain mathematics. No statement of the seat stands here. -/
import Derived.Test.YtedoeadhbcjjgaaDoorG24
/- rosettelaw25.awake. -/
namespace Go.Proofs.YtedoeadhbcjjgaaDoor
open Go.RowKit

theorem awake_term : termZ [0, 1] [1, 1] 10 = 55 := by decide
theorem awake_term_small : ∀ k, k ≤ 10 → (limbs (termZ [0, 1] [1, 1] k).natAbs).length ≤ 4096 := by
  intro k hk
  have h : ∀ k < 11, (termZ [0, 1] [1, 1] k).natAbs < 1000 := by decide
  have := len1 (show (termZ [0, 1] [1, 1] k).natAbs < BW by have := h k (by omega); rw [BW_eq]; omega)
  omega
theorem awake_mod : modZ [0, 1] [1, 1] 10 7 = 6 := by
  unfold modZ
  rw [bitsOf_small (by omega) (by rw [BW_eq]; omega)]
  decide +kernel
theorem small_right {zs : List Int} (h : ∀ z ∈ zs, z.natAbs < 1000000) : AllRight zs := by
  intro i hi
  have h1 := h _ (List.getElem_mem hi)
  rw [show zs.getD i 0 = zs[i] by simp [List.getD, hi]]
  have := len1 (show (zs[i]).natAbs < BW by rw [BW_eq]; omega)
  omega
theorem awake_short : rowOf [0, 1, 1, 2, 3, 5, 8, 13] ((101 : Nat) : Int) = [0, 1, 1, 2, 3, 5, 8, 13] := by decide
theorem lit_sl {w w' : World} {xs : List Int} {T : TypeId} (hT : T = 2) (f : Fr [] (w.alloc (.cells (i64s xs).toArray T)) w') (hr : ∀ x ∈ xs, Ri x) (hl : xs.length ≤ 1000000) : SlI w' (.slice (some ⟨w.heap.size, 0, none⟩) xs.length xs.length) xs :=
  ((OwI_lit (base := w.heap.size) hT rfl (heap_alloc_new w _) (Nat.le_refl _) hr hl).keep0 f).sl

set_option maxRecDepth 1000000 in
set_option maxHeartbeats 8000000 in
theorem awake_any (w : World) (hT : HasTab w) : Calls Tryd.prog 10 #[] w (Yes true w) := by
  have HT := Lib.hid hT
  clear hT
  go_enter Tryd.func10, Tryd.ntmps10
  go_wp2_with fail
  refine (smallRow_any _ [0, 1] _ (lit_sl (w := w) rfl (Fr.refl [] _) (by intro x hx; simp at hx; unfold Ri; omega) (by simp)) (by simp)).mono ?_
  rintro e w1 ⟨v1, rfl, hv, hf⟩
  have HV1 := Lib.hid hv.slz
  have F1 : Hid (Fr [] w w1) := Lib.hid (((Fr.refl [] w).alloc _).trans0 hf)
  clear hv hf
  go_wp2_with fail
  refine (smallRow_any _ [1, 1] _ (lit_sl (w := w1) rfl (Fr.refl [] _) (by intro x hx; simp at hx; unfold Ri; omega) (by simp)) (by simp)).mono ?_
  rintro e w2 ⟨v2, rfl, hv, hf⟩
  have HV2 := Lib.hid hv.slz
  have F12 : Hid (Fr [] w1 w2) := Lib.hid (((Fr.refl [] w1).alloc _).trans0 hf)
  have HV12 := Lib.hid (HV1.out.keep0 F12.out)
  have F2 : Hid (Fr [] w w2) := Lib.hid (F1.out.trans0 F12.out)
  clear hv hf HV1 F12
  go_wp2_with fail
  refine (term_any v1 v2 [0, 1] [1, 1] 10 w2 HV12.out HV2.out rfl (by simp) (by simp) (by omega) (small_right (by decide)) (small_right (by decide)) awake_term_small).mono ?_
  rw [awake_term]
  rintro e w3 ⟨v3, rfl, hv, hf⟩
  obtain ⟨A3, n3, c3, rfl, ho⟩ := hv
  have HX3 : Hid (SlU w3 (.slice A3 n3 c3) (limbs (55 : Int).natAbs)) := Lib.hid ho.sl
  have F3 : Hid (Fr [] w w3) := Lib.hid (F2.out.trans0 hf)
  clear ho hf HV12 HV2
  go_wp2_with fail
  obtain ⟨gx, hgx⟩ : ∃ gx, gx = w3.heap.size := ⟨_, rfl⟩
  obtain ⟨w4, hw4⟩ : ∃ w4, w4 = w3.alloc (.cells #[.bool false, .slice A3 n3 c3] 44) := ⟨_, rfl⟩
  have F34 : Hid (Fr [] w3 w4) := Lib.hid (by rw [hw4]; exact (Fr.refl [] w3).alloc _)
  have HBX : Hid (w4.heap[gx]? = some (.cells #[.bool false, .slice A3 n3 c3] 44 (0, 0))) := Lib.hid (by rw [hw4, hgx]; exact heap_alloc_new w3 _)
  have HX4 := Lib.hid (HX3.out.keep0 F34.out)
  have F4 : Hid (Fr [] w w4) := Lib.hid (F3.out.trans0 F34.out)
  have hsz4 : w3.heap.size + 1 = w4.heap.size := by rw [hw4]; simp
  have hgx4 : gx < w4.heap.size := by omega
  rw [← hgx, ← hw4]
  rw [← hgx] at hsz4
  rw [hsz4]
  clear hgx hw4 hsz4 F3 HX3
  refine (smallRow_any _ [0, 1] _ (lit_sl (w := w4) rfl (Fr.refl [] _) (by intro x hx; simp at hx; unfold Ri; omega) (by simp)) (by simp)).mono ?_
  rintro e w5 ⟨v5, rfl, hv, hf⟩
  have HV5 := Lib.hid hv.slz
  have F45 : Hid (Fr [] w4 w5) := Lib.hid (((Fr.refl [] w4).alloc _).trans0 hf)
  clear hv hf
  go_wp2_with fail
  refine (smallRow_any _ [1, 1] _ (lit_sl (w := w5) rfl (Fr.refl [] _) (by intro x hx; simp at hx; unfold Ri; omega) (by simp)) (by simp)).mono ?_
  rintro e w6 ⟨v6, rfl, hv, hf⟩
  have HV6 := Lib.hid hv.slz
  have F56 : Hid (Fr [] w5 w6) := Lib.hid (((Fr.refl [] w5).alloc _).trans0 hf)
  have F46 : Hid (Fr [] w4 w6) := Lib.hid (F45.out.trans0 F56.out)
  have HV56 := Lib.hid (HV5.out.keep0 F56.out)
  clear hv hf HV5
  go_wp2_with fail
  refine (small_any 10 w6 (by unfold Ri; omega)).mono ?_
  rintro e w7 ⟨v7, rfl, hv, hf⟩
  have HV7 := Lib.hid hv.v
  have F67 := Lib.hid hf
  clear hv hf
  go_wp2_with fail
  refine (small_any 7 w7 (by unfold Ri; omega)).mono ?_
  rintro e w8 ⟨v8, rfl, hv, hf⟩
  have HV8 := Lib.hid hv.v
  have F78 := Lib.hid hf
  have HV78 := Lib.hid (HV7.out.keep0 hf)
  have F68 : Hid (Fr [] w6 w8) := Lib.hid (F67.out.trans0 hf)
  have F48 : Hid (Fr [] w4 w8) := Lib.hid (F46.out.trans0 F68.out)
  clear hv hf HV7
  go_wp2_with fail
  refine (mod_recur_any v5 v6 v7 v8 [0, 1] [1, 1] 10 7 w8 (HV56.out.keep0 F68.out) (HV6.out.keep0 F68.out) HV78.out HV8.out rfl (by simp) (by rw [BW_eq]; omega) (by omega) (by have := len1 (show (7 : Int).natAbs < BW by rw [BW_eq]; decide); omega) (small_right (by decide)) (small_right (by decide))).mono ?_
  rw [awake_mod]
  rintro e w9 ⟨v9, rfl, hv, hf⟩
  obtain ⟨A9, n9, c9, rfl, ho⟩ := hv
  have HY9 : Hid (SlU w9 (.slice A9 n9 c9) (limbs (6 : Int).natAbs)) := Lib.hid ho.sl
  have F49 : Hid (Fr [] w4 w9) := Lib.hid (F48.out.trans0 hf)
  clear ho hf HV56 HV6 HV78 HV8
  go_wp2_with fail
  obtain ⟨gy, hgy⟩ : ∃ gy, gy = w9.heap.size := ⟨_, rfl⟩
  obtain ⟨wa, hwa⟩ : ∃ wa, wa = w9.alloc (.cells #[.bool false, .slice A9 n9 c9] 44) := ⟨_, rfl⟩
  have F9a : Hid (Fr [] w9 wa) := Lib.hid (by rw [hwa]; exact (Fr.refl [] w9).alloc _)
  have HBY : Hid (wa.heap[gy]? = some (.cells #[.bool false, .slice A9 n9 c9] 44 (0, 0))) := Lib.hid (by rw [hwa, hgy]; exact heap_alloc_new w9 _)
  have HYa := Lib.hid (HY9.out.keep0 F9a.out)
  have F4a : Hid (Fr [] w4 wa) := Lib.hid (F49.out.trans0 F9a.out)
  have hsza : w9.heap.size + 1 = wa.heap.size := by rw [hwa]; simp
  have hgya : gy < wa.heap.size := by omega
  have hgy4 : w4.heap.size ≤ gy := by have := F49.out.size; omega
  rw [← hgy, ← hwa]
  rw [← hgy] at hsza
  rw [hsza]
  clear hgy hwa hsza F49 HY9
  refine (shortest_any _ [0, 1, 1, 2, 3, 5, 8, 13] 101 _ (lit_sl (w := wa) rfl (Fr.refl [] _) (by intro x hx; simp at hx; unfold Ri; omega) (by simp)) (by simp) (by simp [nine]) (HT.out.keep0 ((F4.out.trans0 F4a.out).alloc _))).mono ?_
  rintro e wb ⟨vb, hf, hcase⟩
  rw [awake_short] at hcase
  have hs2 := bm_awake
  rcases hcase with ⟨h1, _⟩ | ⟨_, ho, rfl⟩
  · exfalso
    have : (bmRun 101 [0, 1, 1, 2, 3, 5, 8, 13] 8).size = 2 := hs2.1
    rw [show ([0, 1, 1, 2, 3, 5, 8, 13] : List Int).length = 8 from rfl, this] at h1
    omega
  rw [show ([0, 1, 1, 2, 3, 5, 8, 13] : List Int).length = 8 from rfl, hs2.2] at ho
  have HVB := Lib.hid ho.sl
  have Fab : Hid (Fr [] wa wb) := Lib.hid (((Fr.refl [] wa).alloc _).trans0 hf)
  have F4b : Hid (Fr [] w4 wb) := Lib.hid (F4a.out.trans0 Fab.out)
  clear hs2 ho hf
  have HCELL : Hid (∀ w', Fr [] wb w' → (w'.cell? ⟨gx, 0, none⟩ = some (.bool false) ∧ w'.cell? ⟨gx, 1, none⟩ = some (.slice A3 n3 c3) ∧ w'.cell? ⟨gy, 0, none⟩ = some (.bool false) ∧ w'.cell? ⟨gy, 1, none⟩ = some (.slice A9 n9 c9))) := Lib.hid (by
    intro w' f
    have fx := F4b.out.trans0 f
    have fy := Fab.out.trans0 f
    have hc1 := fun j => cell_of_row w4 gx j _ _ _ HBX.out
    have hc2 := fun j => cell_of_row wa gy j _ _ _ HBY.out
    exact ⟨(fx.cell (p := ⟨gx, 0, none⟩) hgx4 (by simp)).trans (hc1 0), (fx.cell (p := ⟨gx, 1, none⟩) hgx4 (by simp)).trans (hc1 1), (fy.cell (p := ⟨gy, 0, none⟩) hgya (by simp)).trans (hc2 0), (fy.cell (p := ⟨gy, 1, none⟩) hgya (by simp)).trans (hc2 1)⟩)
  have HIX : Hid (∀ w', Fr [] wb w' → IntV w' (.agg #[.bool false, .slice A3 n3 c3]) 55) := Lib.hid (fun w' f => ⟨A3, n3, c3, rfl, HX4.out.keep0 (F4b.out.trans0 f)⟩)
  have HIY : Hid (∀ w', Fr [] wb w' → IntV w' (.agg #[.bool false, .slice A9 n9 c9]) 6) := Lib.hid (fun w' f => ⟨A9, n9, c9, rfl, HYa.out.keep0 (Fab.out.trans0 f)⟩)
  have FWb : Hid (Fr [] w wb) := Lib.hid (F4.out.trans0 F4b.out)
  have HL5 : Hid ((limbs (55 : Int).natAbs).length ≤ 1000000 ∧ (limbs (6 : Int).natAbs).length ≤ 1000000) := Lib.hid (by have h1 := len1 (show (55 : Int).natAbs < BW by rw [BW_eq]; decide); have h2 := len1 (show (6 : Int).natAbs < BW by rw [BW_eq]; decide); omega)
  obtain ⟨p0, p1, p2, p3⟩ := HCELL.out wb (Fr.refl _ _)
  go_wp2_with fail
  refine wp_region_lexP [(0, false), (1, false), (2, true), (3, true), (4, false), (5, false), (6, false), (7, true), (8, true), (9, false), (10, false), (11, false), (12, false), (13, false), (14, false), (15, false), (16, true), (17, true), (18, false), (19, true)] (fun w' => w'.cell? ⟨gx, 0, none⟩ = some (.bool false) ∧ w'.cell? ⟨gx, 1, none⟩ = some (.slice A3 n3 c3) ∧ w'.cell? ⟨gy, 0, none⟩ = some (.bool false) ∧ w'.cell? ⟨gy, 1, none⟩ = some (.slice A9 n9 c9)) 19 (by kernel_rfl) (by kernel_rfl) (fun _ _ d _ _ h => by cases d <;> exact h) ⟨p0, p1, p2, p3⟩ ?_
  clear p0 p1 p2 p3
  iterate 2 (refine lexP_yield (by rfl) (by rfl) (by intro w hSw; (try dsimp only at hSw); go_simp; (try rfl)) ?_; simp only [Act.put, List.setIfInBounds_toArray, List.set_cons_zero, List.set_cons_succ])
  have G0 : Hid (Fr [] wb wb.drew) := Lib.hid (Fr.refl [] wb).drew
  refine lexP_step (by rfl) (by rfl) (fun K hK => ?_)
  go_simp
  go_at_call 21
  refine (small_any 55 wb.drew (by unfold Ri; omega)).mono ?_
  rintro e wc ⟨vc, rfl, hv, hf⟩
  have HVC := Lib.hid hv.v
  have G1 := Lib.hid (G0.out.trans0 hf)
  refine hK.out _ _ (fun _ => HCELL.out wc G1.out) ?_
  clear hK K hv hf G0
  try simp only [Act.put, List.setIfInBounds_toArray, List.set_cons_zero, List.set_cons_succ]
  refine lexP_step (by rfl) (by rfl) (fun K hK => ?_)
  go_simp
  go_at_call 22
  refine (is_any _ _ 55 55 0 0 wc (HIX.out wc G1.out) HVC.out HL5.out.1 HL5.out.1).mono ?_
  rw [show (decide ((0 : Int) = 0) && decide ((55 : Int) = 55)) = true by decide]
  rintro e wd ⟨rfl, hf⟩
  have G2 := Lib.hid (G1.out.trans0 hf)
  refine hK.out _ _ (fun _ => HCELL.out wd G2.out) ?_
  clear hK K hf G1 HVC
  try simp only [Act.put, List.setIfInBounds_toArray, List.set_cons_zero, List.set_cons_succ]
  refine lexP_yield (by rfl) (by rfl) (by intro w hSw; (try dsimp only at hSw); go_simp; (try rfl)) ?_
  simp only [Act.put, List.setIfInBounds_toArray, List.set_cons_zero, List.set_cons_succ]
  refine lexP_yield (by rfl) (by rfl) (by intro w hSw; (try dsimp only at hSw); go_simp; (try rfl)) ?_
  simp only [Act.put, List.setIfInBounds_toArray, List.set_cons_zero, List.set_cons_succ]
  refine lexP_yield (by rfl) (by rfl) (by intro w hSw; (try dsimp only at hSw); go_simp; (try rfl)) ?_
  simp only [Act.put, List.setIfInBounds_toArray, List.set_cons_zero, List.set_cons_succ]
  refine lexP_step (by rfl) (by rfl) (fun K hK => ?_)
  go_simp
  go_at_call 21
  refine (small_any 6 wd (by unfold Ri; omega)).mono ?_
  rintro e we ⟨ve, rfl, hv, hf⟩
  have HVE := Lib.hid hv.v
  have G3 := Lib.hid (G2.out.trans0 hf)
  refine hK.out _ _ (fun _ => HCELL.out we G3.out) ?_
  clear hK K hv hf G2
  try simp only [Act.put, List.setIfInBounds_toArray, List.set_cons_zero, List.set_cons_succ]
  refine lexP_step (by rfl) (by rfl) (fun K hK => ?_)
  go_simp
  go_at_call 22
  refine (is_any _ _ 6 6 0 0 we (HIY.out we G3.out) HVE.out HL5.out.2 HL5.out.2).mono ?_
  rw [show (decide ((0 : Int) = 0) && decide ((6 : Int) = 6)) = true by decide]
  rintro e wf ⟨rfl, hf⟩
  have G4 := Lib.hid (G3.out.trans0 hf)
  refine hK.out _ _ (fun _ => HCELL.out wf G4.out) ?_
  clear hK K hf G3 HVE
  try simp only [Act.put, List.setIfInBounds_toArray, List.set_cons_zero, List.set_cons_succ]
  refine lexP_yield (by rfl) (by rfl) (by intro w hSw; (try dsimp only at hSw); go_simp; (try rfl)) ?_
  simp only [Act.put, List.setIfInBounds_toArray, List.set_cons_zero, List.set_cons_succ]
  refine lexP_yield (by rfl) (by rfl) (by intro w hSw; (try dsimp only at hSw); go_simp; (try rfl)) ?_
  simp only [Act.put, List.setIfInBounds_toArray, List.set_cons_zero, List.set_cons_succ]
  refine lexP_yield (by rfl) (by rfl) (by intro w hSw; (try dsimp only at hSw); go_simp; (try rfl)) ?_
  simp only [Act.put, List.setIfInBounds_toArray, List.set_cons_zero, List.set_cons_succ]
  refine lexP_yield (by rfl) (by rfl) (by intro w hSw; (try dsimp only at hSw); go_simp; (try rfl)) ?_
  simp only [Act.put, List.setIfInBounds_toArray, List.set_cons_zero, List.set_cons_succ]
  refine lexP_yield (by rfl) (by rfl) (by intro w hSw; (try dsimp only at hSw); go_simp; (try rfl)) ?_
  simp only [Act.put, List.setIfInBounds_toArray, List.set_cons_zero, List.set_cons_succ]
  refine lexP_yield (by rfl) (by rfl) (by intro w hSw; (try dsimp only at hSw); go_simp; (try rfl)) ?_
  simp only [Act.put, List.setIfInBounds_toArray, List.set_cons_zero, List.set_cons_succ]
  refine lexP_yield (by rfl) (by rfl) (by intro w hSw; (try dsimp only at hSw); go_simp; (try rfl)) ?_
  simp only [Act.put, List.setIfInBounds_toArray, List.set_cons_zero, List.set_cons_succ]
  refine lexP_step (by rfl) (by rfl) (fun K hK => ?_)
  go_simp
  have G5 : Hid (Fr [] wb (wf.alloc (.cells #[.int .i64 1, .int .i64 1] 2))) := Lib.hid (G4.out.alloc _)
  have HLIT : Hid (SlI (wf.alloc (.cells #[.int .i64 1, .int .i64 1] 2)) (.slice (some ⟨wf.heap.size, 0, none⟩) 2 2) [1, 1]) := Lib.hid (lit_sl (w := wf) (xs := [1, 1]) rfl (Fr.refl [] _) (by intro x hx; simp at hx; unfold Ri; omega) (by simp))
  refine hK.out _ _ (fun _ => HCELL.out _ G5.out) ?_
  clear hK K
  try simp only [Act.put, List.setIfInBounds_toArray, List.set_cons_zero, List.set_cons_succ]
  refine lexP_step (by rfl) (by rfl) (fun K hK => ?_)
  go_simp
  go_at_call 9
  refine (sameLongs_any _ _ [1, 1] [1, 1] _ (HVB.out.keep0 G5.out) HLIT.out (by simp) (by simp)).mono ?_
  rw [show decide (([1, 1] : List Int) = [1, 1]) = true by decide]
  rintro e wg ⟨rfl, q, rfl⟩
  have G6 : Hid (Fr [] wb ((wf.alloc (.cells #[.int .i64 1, .int .i64 1] 2)).drewN q)) := Lib.hid (G5.out.drewN q)
  refine hK.out _ _ (fun _ => HCELL.out _ G6.out) ?_
  clear hK K
  try simp only [Act.put, List.setIfInBounds_toArray, List.set_cons_zero, List.set_cons_succ]
  refine lexP_yield (by rfl) (by rfl) (by intro w hSw; (try dsimp only at hSw); go_simp; (try rfl)) ?_
  simp only [Act.put, List.setIfInBounds_toArray, List.set_cons_zero, List.set_cons_succ]
  refine lexP_step (by rfl) (by rfl) (fun K hK => ?_)
  go_simp
  refine hK.out _ _ (fun h => absurd h (by decide)) ?_
  clear hK K
  refine lexP_done ?_
  go_wp2
  go_ret
  exact ⟨rfl, FWb.out.trans0 G6.out⟩
end Go.Proofs.YtedoeadhbcjjgaaDoor
