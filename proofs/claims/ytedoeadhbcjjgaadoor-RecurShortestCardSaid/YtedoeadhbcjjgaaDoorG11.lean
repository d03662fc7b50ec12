/- Joined by program (merge.py) out of 4 texts, a part of the proof: contracts of the functions that the statement reaches, and plain mathematics. No statement of the seat stands here. -/
import Derived.Test.YtedoeadhbcjjgaaDoorG10
/- big.Int: Add, Sub, Sign, Cmp. (printed by gen_int.py) -/
namespace Go.Proofs.YtedoeadhbcjjgaaDoor
open Go.RowKit

set_option maxRecDepth 100000 in
set_option maxHeartbeats 4000000 in
theorem add_same (g gx gy : Nat) (x y : Int) (w : World) (hg : IntBlk w g) (hx : BigAt w gx x) (hy : BigAt w gy y) (hl : (limbs x.natAbs).length ≤ 100000000) (hl2 : (limbs y.natAbs).length ≤ 100000000) (hsame : x < 0 ↔ y < 0) :
    Calls Tryd.prog 35 #[.pointer (some ⟨g, 0, none⟩), .pointer (some ⟨gx, 0, none⟩), .pointer (some ⟨gy, 0, none⟩)] w (BigPost g (x + y) w) := by
  obtain ⟨A, n, c, hc0, hc1, _, _, hs⟩ := hx.cells
  obtain ⟨B, m, d, hd0, hd1, _, _, ht⟩ := hy.cells
  have HS := Lib.hid hs
  have HT := Lib.hid ht
  have HG := Lib.hid hg
  have HL := Lib.hid (And.intro hl hl2)
  have hgl := hx.lt
  have hgm := hy.lt
  obtain ⟨s, hsd⟩ : ∃ s, s = decide (x < 0) := ⟨_, rfl⟩
  obtain ⟨t, htd⟩ : ∃ t, t = decide (y < 0) := ⟨_, rfl⟩
  rw [← hsd] at hc0
  rw [← htd] at hd0
  have HSD : Hid ((s = true ↔ x < 0) ∧ (t = true ↔ y < 0)) := Lib.hid (by rw [hsd, htd]; simp)
  clear hs ht hg hx hy hl hl2 hsd htd
  have hst : s = t := by have h := HSD.out; rw [Bool.eq_iff_iff, h.1, h.2]; exact hsame
  subst hst
  have hSS : (s == s) = true := by simp
  clear hsame
  go_enter Tryd.func35, Tryd.ntmps35
  go_wp2_with fail
  go_quiet (fail)
  obtain ⟨wq, hwq⟩ : ∃ wq, wq = w.drewN nq := ⟨_, rfl⟩
  rw [← hwq]
  have F0 : Hid (Fr [] w wq) := Lib.hid (by rw [hwq]; exact (Fr.refl [] w).drewN nq)
  rw [show w.cell? = wq.cell? by rw [hwq]; rfl] at hc0 hc1 hd0 hd1
  rw [show w.heap.size = wq.heap.size by rw [hwq]; rfl] at hgl hgm
  clear hwq
  go_wp2_with fail
  have F1 : Hid (Fr [] w wq.drew) := Lib.hid F0.out.drew
  refine wp_region_lex [false, false, false, false, false, false, false, false, false, false, false, false, false, true, true, true] (fun w' => w'.cell? ⟨gx, 0, none⟩ = some (.bool s) ∧ w'.cell? ⟨gx, 1, none⟩ = some (.slice A n c) ∧ w'.cell? ⟨gy, 1, none⟩ = some (.slice B m d)) 14 (by kernel_rfl) (by kernel_rfl) (fun _ _ d _ _ h => by cases d <;> exact h) ⟨hc0, hc1, hd1⟩ ?_
  iterate 13 (refine lex_yield (by rfl) (by intro w hSw; (try dsimp only at hSw); go_simp; (try rfl)) ?_; simp only [Act.put, List.setIfInBounds_toArray, List.set_cons_zero, List.set_cons_succ])
  refine lex_step (by rfl) (by rfl) (fun K hK => ?_)
  go_simp
  go_at_call 57
  refine (plus_any _ _ x.natAbs y.natAbs _ (HS.out.keep0 F1.out) (HT.out.keep0 F1.out) (by have := HL.out; omega) (by have := HL.out; omega)).mono ?_
  rintro e w2 ⟨v2, rfl, ho, hf⟩; have HO := Lib.hid ho.sl; have F2 := Lib.hid (F1.out.trans0 hf); have k0 := (hf.cell (p := ⟨gx, 0, none⟩) (by simpa using hgl) (by simp)).trans hc0; have k1 := (hf.cell (p := ⟨gx, 1, none⟩) (by simpa using hgl) (by simp)).trans hc1; have q0 := (hf.cell (p := ⟨gy, 0, none⟩) (by simpa using hgm) (by simp)).trans hd0; have q1 := (hf.cell (p := ⟨gy, 1, none⟩) (by simpa using hgm) (by simp)).trans hd1; clear ho hf
  refine hK.out _ _ (fun _ => ⟨k0, k1, q1⟩) ?_
  clear hK K
  try simp only [Act.put, List.setIfInBounds_toArray, List.set_cons_zero, List.set_cons_succ]
  refine lex_step (by rfl) (by rfl) (fun K hK => ?_)
  go_simp
  go_at_call 48
  refine (put_limbs g (s) _ (x.natAbs + y.natAbs) (x + y) _ (HG.out.keep F2.out (by simp)) HO.out (by have := HL.out; have := limbs_add_len x.natAbs y.natAbs; omega) (by have := HSD.out; cases s <;> simp at this <;> omega) (by have := HSD.out; cases s <;> simp at this ⊢ <;> omega)).mono ?_
  rintro e w3 ⟨rfl, hb, hf⟩; have HB := Lib.hid hb; have F3 := Lib.hid (F2.out.then_ hf); clear hb hf
  refine hK.out _ _ (fun h => absurd h (by decide)) ?_
  clear hK K
  try simp only [Act.put, List.setIfInBounds_toArray, List.set_cons_zero, List.set_cons_succ]
  refine lex_step (by rfl) (by rfl) (fun K hK => ?_)
  go_simp
  refine hK.out _ _ (fun h => absurd h (by decide)) ?_
  clear hK K
  refine lex_done ?_
  go_wp2
  go_ret
  exact ⟨rfl, HB.out, F3.out⟩

set_option maxRecDepth 100000 in
set_option maxHeartbeats 4000000 in
theorem add_ge (g gx gy : Nat) (x y : Int) (w : World) (hg : IntBlk w g) (hx : BigAt w gx x) (hy : BigAt w gy y) (hl : (limbs x.natAbs).length ≤ 100000000) (hl2 : (limbs y.natAbs).length ≤ 100000000) (hsame : ¬ (x < 0 ↔ y < 0)) (hc : y.natAbs ≤ x.natAbs) :
    Calls Tryd.prog 35 #[.pointer (some ⟨g, 0, none⟩), .pointer (some ⟨gx, 0, none⟩), .pointer (some ⟨gy, 0, none⟩)] w (BigPost g (x + y) w) := by
  obtain ⟨A, n, c, hc0, hc1, _, _, hs⟩ := hx.cells
  obtain ⟨B, m, d, hd0, hd1, _, _, ht⟩ := hy.cells
  have HS := Lib.hid hs
  have HT := Lib.hid ht
  have HG := Lib.hid hg
  have HL := Lib.hid (And.intro hl hl2)
  have hgl := hx.lt
  have hgm := hy.lt
  obtain ⟨s, hsd⟩ : ∃ s, s = decide (x < 0) := ⟨_, rfl⟩
  obtain ⟨t, htd⟩ : ∃ t, t = decide (y < 0) := ⟨_, rfl⟩
  rw [← hsd] at hc0
  rw [← htd] at hd0
  have HSD : Hid ((s = true ↔ x < 0) ∧ (t = true ↔ y < 0)) := Lib.hid (by rw [hsd, htd]; simp)
  clear hs ht hg hx hy hl hl2 hsd htd
  have hSS : (s == t) = false := by
    have h := HSD.out
    cases hb : s == t with
    | false => rfl
    | true => exact absurd (by rw [← h.1, ← h.2, eq_of_beq hb]) hsame
  have HNS := Lib.hid hsame
  have HC := Lib.hid hc
  have hcmp : 0 ≤ cmpI x.natAbs y.natAbs := by unfold cmpI; rw [if_neg (by omega)]; split <;> omega
  obtain ⟨cm, hcm⟩ : ∃ cm, cm = cmpI x.natAbs y.natAbs := ⟨_, rfl⟩
  rw [← hcm] at hcmp
  have HCM : Hid (∀ W : World, Fr [] w W → Calls Tryd.prog 53 #[.slice A n c, .slice B m d] W fun e w' => e = .returned (.int .i64 cm) ∧ ∃ n, w' = W.drewN n) := Lib.hid (fun W f => (compare_any _ _ _ _ W (HS.out.keep0 f) (HT.out.keep0 f) (by have := HL.out; omega) (by have := HL.out; omega)).mono (fun e w' h => ⟨by rw [hcm]; exact h.1, h.2⟩))
  clear hsame hc hcm
  go_enter Tryd.func35, Tryd.ntmps35
  go_wp2_with fail
  go_quiet (fail)
  obtain ⟨wq, hwq⟩ : ∃ wq, wq = w.drewN nq := ⟨_, rfl⟩
  rw [← hwq]
  have F0 : Hid (Fr [] w wq) := Lib.hid (by rw [hwq]; exact (Fr.refl [] w).drewN nq)
  rw [show w.cell? = wq.cell? by rw [hwq]; rfl] at hc0 hc1 hd0 hd1
  rw [show w.heap.size = wq.heap.size by rw [hwq]; rfl] at hgl hgm
  clear hwq
  go_wp2_with fail
  go_quiet ((go_at_call 53; exact Calls.quiet_of (HCM.out _ (F0.out.drewN _))))
  obtain ⟨wp, hwp⟩ : ∃ wp, wp = wq.drewN nq := ⟨_, rfl⟩
  rw [← hwp]
  have F00 : Hid (Fr [] w wp) := Lib.hid (by rw [hwp]; exact F0.out.drewN nq)
  rw [show wq.cell? = wp.cell? by rw [hwp]; rfl] at hc0 hc1 hd0 hd1
  rw [show wq.heap.size = wp.heap.size by rw [hwp]; rfl] at hgl hgm
  clear hwp F0
  go_wp2_with fail
  have F1 : Hid (Fr [] w wp.drew) := Lib.hid F00.out.drew
  refine wp_region_lex [false, false, false, false, false, false, false, false, false, false, false, false, false, true, true, true] (fun w' => w'.cell? ⟨gx, 0, none⟩ = some (.bool s) ∧ w'.cell? ⟨gx, 1, none⟩ = some (.slice A n c) ∧ w'.cell? ⟨gy, 1, none⟩ = some (.slice B m d)) 14 (by kernel_rfl) (by kernel_rfl) (fun _ _ d _ _ h => by cases d <;> exact h) ⟨hc0, hc1, hd1⟩ ?_
  iterate 13 (refine lex_yield (by rfl) (by intro w hSw; (try dsimp only at hSw); go_simp; (try rfl)) ?_; simp only [Act.put, List.setIfInBounds_toArray, List.set_cons_zero, List.set_cons_succ])
  refine lex_step (by rfl) (by rfl) (fun K hK => ?_)
  go_simp
  go_at_call 58
  refine (less_any _ _ x.natAbs y.natAbs _ (HS.out.keep0 F1.out) (HT.out.keep0 F1.out) (by have := HL.out; omega) HC.out).mono ?_
  rintro e w2 ⟨v2, rfl, ho, hf⟩; have HO := Lib.hid ho.sl; have F2 := Lib.hid (F1.out.trans0 hf); have k0 := (hf.cell (p := ⟨gx, 0, none⟩) (by simpa using hgl) (by simp)).trans hc0; have k1 := (hf.cell (p := ⟨gx, 1, none⟩) (by simpa using hgl) (by simp)).trans hc1; have q0 := (hf.cell (p := ⟨gy, 0, none⟩) (by simpa using hgm) (by simp)).trans hd0; have q1 := (hf.cell (p := ⟨gy, 1, none⟩) (by simpa using hgm) (by simp)).trans hd1; clear ho hf
  refine hK.out _ _ (fun _ => ⟨k0, k1, q1⟩) ?_
  clear hK K
  try simp only [Act.put, List.setIfInBounds_toArray, List.set_cons_zero, List.set_cons_succ]
  refine lex_step (by rfl) (by rfl) (fun K hK => ?_)
  go_simp
  go_at_call 48
  refine (put_limbs g (s) _ (x.natAbs - y.natAbs) (x + y) _ (HG.out.keep F2.out (by simp)) HO.out (by have := HL.out; have := limbs_length_mono (Nat.sub_le x.natAbs y.natAbs); omega) (by have := HNS.out; have := HC.out; omega) (by have := HSD.out; have := HNS.out; have := HC.out; cases s <;> simp at this ⊢ <;> omega)).mono ?_
  rintro e w3 ⟨rfl, hb, hf⟩; have HB := Lib.hid hb; have F3 := Lib.hid (F2.out.then_ hf); clear hb hf
  refine hK.out _ _ (fun h => absurd h (by decide)) ?_
  clear hK K
  try simp only [Act.put, List.setIfInBounds_toArray, List.set_cons_zero, List.set_cons_succ]
  refine lex_step (by rfl) (by rfl) (fun K hK => ?_)
  go_simp
  refine hK.out _ _ (fun h => absurd h (by decide)) ?_
  clear hK K
  refine lex_done ?_
  go_wp2
  go_ret
  exact ⟨rfl, HB.out, F3.out⟩

set_option maxRecDepth 100000 in
set_option maxHeartbeats 4000000 in
theorem add_lt (g gx gy : Nat) (x y : Int) (w : World) (hg : IntBlk w g) (hx : BigAt w gx x) (hy : BigAt w gy y) (hl : (limbs x.natAbs).length ≤ 100000000) (hl2 : (limbs y.natAbs).length ≤ 100000000) (hsame : ¬ (x < 0 ↔ y < 0)) (hc : x.natAbs < y.natAbs) :
    Calls Tryd.prog 35 #[.pointer (some ⟨g, 0, none⟩), .pointer (some ⟨gx, 0, none⟩), .pointer (some ⟨gy, 0, none⟩)] w (BigPost g (x + y) w) := by
  obtain ⟨A, n, c, hc0, hc1, _, _, hs⟩ := hx.cells
  obtain ⟨B, m, d, hd0, hd1, _, _, ht⟩ := hy.cells
  have HS := Lib.hid hs
  have HT := Lib.hid ht
  have HG := Lib.hid hg
  have HL := Lib.hid (And.intro hl hl2)
  have hgl := hx.lt
  have hgm := hy.lt
  obtain ⟨s, hsd⟩ : ∃ s, s = decide (x < 0) := ⟨_, rfl⟩
  obtain ⟨t, htd⟩ : ∃ t, t = decide (y < 0) := ⟨_, rfl⟩
  rw [← hsd] at hc0
  rw [← htd] at hd0
  have HSD : Hid ((s = true ↔ x < 0) ∧ (t = true ↔ y < 0)) := Lib.hid (by rw [hsd, htd]; simp)
  clear hs ht hg hx hy hl hl2 hsd htd
  have hSS : (s == t) = false := by
    have h := HSD.out
    cases hb : s == t with
    | false => rfl
    | true => exact absurd (by rw [← h.1, ← h.2, eq_of_beq hb]) hsame
  have HNS := Lib.hid hsame
  have HC := Lib.hid hc
  have hcmp : cmpI x.natAbs y.natAbs < 0 := by rw [cmpI_lt hc]; omega
  obtain ⟨cm, hcm⟩ : ∃ cm, cm = cmpI x.natAbs y.natAbs := ⟨_, rfl⟩
  rw [← hcm] at hcmp
  have HCM : Hid (∀ W : World, Fr [] w W → Calls Tryd.prog 53 #[.slice A n c, .slice B m d] W fun e w' => e = .returned (.int .i64 cm) ∧ ∃ n, w' = W.drewN n) := Lib.hid (fun W f => (compare_any _ _ _ _ W (HS.out.keep0 f) (HT.out.keep0 f) (by have := HL.out; omega) (by have := HL.out; omega)).mono (fun e w' h => ⟨by rw [hcm]; exact h.1, h.2⟩))
  clear hsame hc hcm
  go_enter Tryd.func35, Tryd.ntmps35
  go_wp2_with fail
  go_quiet (fail)
  obtain ⟨wq, hwq⟩ : ∃ wq, wq = w.drewN nq := ⟨_, rfl⟩
  rw [← hwq]
  have F0 : Hid (Fr [] w wq) := Lib.hid (by rw [hwq]; exact (Fr.refl [] w).drewN nq)
  rw [show w.cell? = wq.cell? by rw [hwq]; rfl] at hc0 hc1 hd0 hd1
  rw [show w.heap.size = wq.heap.size by rw [hwq]; rfl] at hgl hgm
  clear hwq
  go_wp2_with fail
  go_quiet ((go_at_call 53; exact Calls.quiet_of (HCM.out _ (F0.out.drewN _))))
  obtain ⟨wp, hwp⟩ : ∃ wp, wp = wq.drewN nq := ⟨_, rfl⟩
  rw [← hwp]
  have F00 : Hid (Fr [] w wp) := Lib.hid (by rw [hwp]; exact F0.out.drewN nq)
  rw [show wq.cell? = wp.cell? by rw [hwp]; rfl] at hc0 hc1 hd0 hd1
  rw [show wq.heap.size = wp.heap.size by rw [hwp]; rfl] at hgl hgm
  clear hwp F0
  go_wp2_with fail
  have F1 : Hid (Fr [] w wp.drew) := Lib.hid F00.out.drew
  refine wp_region_lex [false, false, false, false, false, false, false, false, false, false, false, false, false, true, true, true] (fun w' => w'.cell? ⟨gx, 1, none⟩ = some (.slice A n c) ∧ w'.cell? ⟨gy, 0, none⟩ = some (.bool t) ∧ w'.cell? ⟨gy, 1, none⟩ = some (.slice B m d)) 14 (by kernel_rfl) (by kernel_rfl) (fun _ _ d _ _ h => by cases d <;> exact h) ⟨hc1, hd0, hd1⟩ ?_
  iterate 13 (refine lex_yield (by rfl) (by intro w hSw; (try dsimp only at hSw); go_simp; (try rfl)) ?_; simp only [Act.put, List.setIfInBounds_toArray, List.set_cons_zero, List.set_cons_succ])
  refine lex_step (by rfl) (by rfl) (fun K hK => ?_)
  go_simp
  go_at_call 58
  refine (less_any _ _ y.natAbs x.natAbs _ (HT.out.keep0 F1.out) (HS.out.keep0 F1.out) (by have := HL.out; omega) (by have := HC.out; omega)).mono ?_
  rintro e w2 ⟨v2, rfl, ho, hf⟩; have HO := Lib.hid ho.sl; have F2 := Lib.hid (F1.out.trans0 hf); have k0 := (hf.cell (p := ⟨gx, 0, none⟩) (by simpa using hgl) (by simp)).trans hc0; have k1 := (hf.cell (p := ⟨gx, 1, none⟩) (by simpa using hgl) (by simp)).trans hc1; have q0 := (hf.cell (p := ⟨gy, 0, none⟩) (by simpa using hgm) (by simp)).trans hd0; have q1 := (hf.cell (p := ⟨gy, 1, none⟩) (by simpa using hgm) (by simp)).trans hd1; clear ho hf
  refine hK.out _ _ (fun _ => ⟨k1, q0, q1⟩) ?_
  clear hK K
  try simp only [Act.put, List.setIfInBounds_toArray, List.set_cons_zero, List.set_cons_succ]
  refine lex_step (by rfl) (by rfl) (fun K hK => ?_)
  go_simp
  go_at_call 48
  refine (put_limbs g (t) _ (y.natAbs - x.natAbs) (x + y) _ (HG.out.keep F2.out (by simp)) HO.out (by have := HL.out; have := limbs_length_mono (Nat.sub_le y.natAbs x.natAbs); omega) (by have := HNS.out; have := HC.out; omega) (by have := HSD.out; have := HNS.out; have := HC.out; cases t <;> simp at this ⊢ <;> omega)).mono ?_
  rintro e w3 ⟨rfl, hb, hf⟩; have HB := Lib.hid hb; have F3 := Lib.hid (F2.out.then_ hf); clear hb hf
  refine hK.out _ _ (fun h => absurd h (by decide)) ?_
  clear hK K
  try simp only [Act.put, List.setIfInBounds_toArray, List.set_cons_zero, List.set_cons_succ]
  refine lex_step (by rfl) (by rfl) (fun K hK => ?_)
  go_simp
  refine hK.out _ _ (fun h => absurd h (by decide)) ?_
  clear hK K
  refine lex_done ?_
  go_wp2
  go_ret
  exact ⟨rfl, HB.out, F3.out⟩

theorem add_any (g gx gy : Nat) (x y : Int) (w : World) (hg : IntBlk w g) (hx : BigAt w gx x) (hy : BigAt w gy y) (hl : (limbs x.natAbs).length ≤ 100000000) (hl2 : (limbs y.natAbs).length ≤ 100000000) :
    Calls Tryd.prog 35 #[.pointer (some ⟨g, 0, none⟩), .pointer (some ⟨gx, 0, none⟩), .pointer (some ⟨gy, 0, none⟩)] w (BigPost g (x + y) w) := by
  by_cases h1 : x < 0 ↔ y < 0
  · exact add_same g gx gy x y w hg hx hy hl hl2 h1
  · by_cases h2 : y.natAbs ≤ x.natAbs
    · exact add_ge g gx gy x y w hg hx hy hl hl2 h1 h2
    · exact add_lt g gx gy x y w hg hx hy hl hl2 h1 (by omega)

end Go.Proofs.YtedoeadhbcjjgaaDoor

/- big.Int: Sub, SetInt64, NewInt, Uint64, Int64, BitLen, Sign. -/
namespace Go.Proofs.YtedoeadhbcjjgaaDoor
open Go.RowKit

theorem Fr.own1 {w a b : World} {h : Nat} (f : Fr [] w a) (k : Fr [h] a b) (hh : w.heap.size ≤ h) : Fr [] w b :=
  f.trans k (by intro x hx hlt; simp at hx; omega)

set_option maxRecDepth 100000 in
set_option maxHeartbeats 4000000 in
theorem sub_any (g gx gy : Nat) (x y : Int) (w : World) (hg : IntBlk w g) (hx : BigAt w gx x) (hy : BigAt w gy y) (hl : (limbs x.natAbs).length ≤ 100000000) (hl2 : (limbs y.natAbs).length ≤ 100000000) :
    Calls Tryd.prog 28 #[.pointer (some ⟨g, 0, none⟩), .pointer (some ⟨gx, 0, none⟩), .pointer (some ⟨gy, 0, none⟩)] w (BigPost g (x - y) w) := by
  have HG := Lib.hid hg
  have HX := Lib.hid hx
  have HY := Lib.hid hy
  have HL := Lib.hid (And.intro hl hl2)
  clear hg hx hy hl hl2
  go_enter Tryd.func28, Tryd.ntmps28
  go_wp2_with fail
  refine (neg_any w.heap.size gy y _ (BigAt_new w).blk (HY.out.keep0 ((Fr.refl [] w).alloc _)) HL.out.2).mono ?_
  rintro e w1 ⟨rfl, hb, hf⟩
  have HB := Lib.hid hb
  have F : Hid (Fr [] w w1) := Lib.hid (((Fr.refl [] w).alloc _).own1 hf (Nat.le_refl _))
  clear hb hf
  go_wp2_with fail
  refine (add_any g gx w.heap.size x (-y) _ (HG.out.keep F.out (by simp)) (HX.out.keep0 F.out) HB.out HL.out.1 (by rw [Int.natAbs_neg]; exact HL.out.2)).mono ?_
  rintro e w2 ⟨rfl, hb, hf⟩
  have HB2 := Lib.hid hb
  have F2 := Lib.hid (F.out.then_ hf)
  clear hb hf
  go_wp2
  go_ret
  exact ⟨rfl, by have := HB2.out; rwa [← Int.sub_eq_add_neg] at this, F2.out⟩

set_option maxRecDepth 100000 in
set_option maxHeartbeats 4000000 in
theorem setInt64_any (g : Nat) (x : Int) (w : World) (hg : IntBlk w g) (hx : Ri x) :
    Calls Tryd.prog 31 #[.pointer (some ⟨g, 0, none⟩), .int .i64 x] w (BigPost g x w) := by
  have HG := Lib.hid hg
  obtain ⟨h1, h2⟩ := hx
  have hab : x.natAbs < BW := by rw [BW_eq]; omega
  clear hg
  have HAB := Lib.hid hab
  have hput : ∀ (s : Bool) (u : Int), (x < 0 ↔ s = true) → u = (x.natAbs : Int) → Hid (Calls Tryd.prog 48 #[.pointer (some ⟨g, 0, none⟩), .bool s, .slice (some ⟨w.heap.size, 0, none⟩) 1 1] (w.alloc (.cells #[.int .u64 u] 58)) (BigPost g x (w.alloc (.cells #[.int .u64 u] 58)))) := by
    intro s u hs hu
    subst hu
    refine Lib.hid (put_any g s _ [x.natAbs] x _ (HG.out.keep ((Fr.refl [] w).alloc _) (by simp)) (OwU_one w w.heap.size x.natAbs (Nat.le_refl _) HAB.out).sl (by simp) (val_single _).symm ?_)
    rw [val_single, Bool.eq_iff_iff]
    simp only [decide_eq_true_eq, Bool.and_eq_true, hs]
    constructor
    · intro h; exact ⟨h, by have := hs.2 h; omega⟩
    · exact fun h => h.1
  clear hab
  by_cases h0 : x < 0
  · have HP := hput true (-x) (by simp [h0]) (by omega)
    have e2 : (decide (x < 0)) = true := by simp [h0]
    have e1 : IntKind.u64.wrap (-(IntKind.u64.wrap x)) = -x := by rw [wrap_u, wrap_u]; omega
    clear hput HAB
    go_enter Tryd.func31, Tryd.ntmps31
    go_wp2_with (go_at_call 48; refine HP.out.mono ?_; rintro e w3 ⟨rfl, hb, hf⟩; have HB := Lib.hid hb; have F3 := Lib.hid (((Fr.refl [] w).alloc _).then_ hf); clear hb hf)
    go_ret
    exact ⟨rfl, HB.out, F3.out⟩
  · have HP := hput false x (by simp [h0]) (by omega)
    have e2 : (decide (x < 0)) = false := by simp [h0]
    have e1 : IntKind.u64.wrap x = x := by rw [wrap_u]; omega
    clear hput HAB
    go_enter Tryd.func31, Tryd.ntmps31
    go_wp2_with (go_at_call 48; refine HP.out.mono ?_; rintro e w3 ⟨rfl, hb, hf⟩; have HB := Lib.hid hb; have F3 := Lib.hid (((Fr.refl [] w).alloc _).then_ hf); clear hb hf)
    go_ret
    exact ⟨rfl, HB.out, F3.out⟩

/-- A big number of the call's own. -/
def NewPost (Z : Int) (w : World) (e : Ending) (w' : World) : Prop := ∃ h, e = .returned (.pointer (some ⟨h, 0, none⟩)) ∧ w.heap.size ≤ h ∧ BigAt w' h Z ∧ Fr [] w w'

set_option maxRecDepth 100000 in
set_option maxHeartbeats 4000000 in
theorem newInt_any (x : Int) (w : World) (hx : Ri x) : Calls Tryd.prog 15 #[.int .i64 x] w (NewPost x w) := by
  have HX := Lib.hid hx
  clear hx
  go_enter Tryd.func15, Tryd.ntmps15
  go_wp2_with fail
  refine (setInt64_any w.heap.size x _ (BigAt_new w).blk HX.out).mono ?_
  rintro e w1 ⟨rfl, hb, hf⟩
  have HB := Lib.hid hb
  have F : Hid (Fr [] w w1) := Lib.hid (((Fr.refl [] w).alloc _).own1 hf (Nat.le_refl _))
  clear hb hf
  go_wp2
  go_ret
  exact ⟨w.heap.size, rfl, Nat.le_refl _, HB.out, F.out⟩

/-- A big number's sign. -/
def sgn (x : Int) : Int := if x = 0 then 0 else if x < 0 then -1 else 1
set_option maxRecDepth 100000 in
set_option maxHeartbeats 4000000 in
theorem sign_any (gx : Nat) (x : Int) (w : World) (hx : BigAt w gx x) : Calls Tryd.prog 26 #[.pointer (some ⟨gx, 0, none⟩)] w fun e w' => e = .returned (.int .i64 (sgn x)) ∧ w = w' := by
  obtain ⟨A, n, c, hc0, hc1, _, _, hs⟩ := hx.cells
  have hn : n = (limbs x.natAbs).length := hs.len.symm
  by_cases h0 : x = 0
  · have hn0 : n = 0 := by rw [hn, h0]; simp [limbs_zero]
    subst hn0
    have hs0 : sgn x = 0 := by simp [sgn, h0]
    rw [hs0]
    clear hs hn h0 hx
    go_enter Tryd.func26, Tryd.ntmps26
    go_wp2
    go_ret
    exact ⟨rfl, rfl⟩
  · have hn0 : 0 < n := by rw [hn]; exact List.length_pos_iff.2 (limbs_ne (by omega))
    have e1 : ((n : Int) == 0) = false := by simp; omega
    by_cases hneg : x < 0
    · have hs0 : sgn x = -1 := by simp [sgn, h0, hneg]
      have hd : decide (x < 0) = true := by simp [hneg]
      rw [hd] at hc0
      rw [hs0]
      clear hs hn h0 hx hd
      go_enter Tryd.func26, Tryd.ntmps26
      go_wp2
      go_ret
      exact ⟨rfl, rfl⟩
    · have hs0 : sgn x = 1 := by simp [sgn, h0, hneg]
      have hd : decide (x < 0) = false := by simp [hneg]
      rw [hd] at hc0
      rw [hs0]
      clear hs hn h0 hx hd
      go_enter Tryd.func26, Tryd.ntmps26
      go_wp2
      go_ret
      exact ⟨rfl, rfl⟩

set_option maxRecDepth 100000 in
set_option maxHeartbeats 4000000 in
theorem bitLen_any (gx : Nat) (x : Int) (w : World) (hx : BigAt w gx x) (hl : (limbs x.natAbs).length ≤ 100000000) : Calls Tryd.prog 36 #[.pointer (some ⟨gx, 0, none⟩)] w (SizePost x.natAbs w) := by
  obtain ⟨A, n, c, hc0, hc1, _, _, hs⟩ := hx.cells
  have HS := Lib.hid hs
  have HL := Lib.hid hl
  clear hs hx hl
  go_enter Tryd.func36, Tryd.ntmps36
  go_wp2_with (go_at_call 59; refine (size_any _ _ _ HS.out (by have := HL.out; omega)).mono ?_; rintro e w' ⟨rfl, rfl⟩)
  go_ret
  exact ⟨rfl, rfl⟩

/-- The lowest limb. -/
theorem limb0 (n : Nat) : (limbs n).getD 0 0 = n % BW := by
  by_cases h : n = 0
  · rw [h, limbs_zero]; rfl
  · rw [limbs_pos h]; rfl
set_option maxRecDepth 100000 in
set_option maxHeartbeats 4000000 in
theorem uint64_any (gx : Nat) (x : Int) (w : World) (hx : BigAt w gx x) : Calls Tryd.prog 32 #[.pointer (some ⟨gx, 0, none⟩)] w fun e w' => e = .returned (.int .u64 ((x.natAbs % BW : Nat) : Int)) ∧ w = w' := by
  obtain ⟨A, n, c, hc0, hc1, _, _, hs⟩ := hx.cells
  have hn : n = (limbs x.natAbs).length := hs.len.symm
  rw [← limb0]
  by_cases h0 : n = 0
  · subst h0
    have e0 : (limbs x.natAbs).getD 0 0 = 0 := by simp [List.getD, ← hn]
    rw [e0]
    clear hs hn hx e0
    go_enter Tryd.func32, Tryd.ntmps32
    go_wp2
    go_ret
    exact ⟨rfl, rfl⟩
  · obtain ⟨b, o, rfl, h1⟩ := hs.get (k := 0) (by omega)
    have e1 : ((n : Int) == 0) = false := by simp; omega
    generalize (limbs x.natAbs).getD 0 0 = l at *
    rw [Nat.add_zero] at h1
    have hpos : 0 < n := by omega
    clear hs hn hx h0
    go_enter Tryd.func32, Tryd.ntmps32
    go_wp2
    go_ret
    exact ⟨rfl, rfl⟩

set_option maxRecDepth 100000 in
set_option maxHeartbeats 4000000 in
theorem int64_any (gx : Nat) (x : Int) (w : World) (hx : BigAt w gx x) (hr : Ri x) : Calls Tryd.prog 16 #[.pointer (some ⟨gx, 0, none⟩)] w fun e w' => e = .returned (.int .i64 x) ∧ w = w' := by
  obtain ⟨h1, h2⟩ := hr
  obtain ⟨A, n, c, hc0, hc1, _, _, hs⟩ := hx.cells
  have HU := Lib.hid (uint64_any gx x w hx)
  have hm : x.natAbs % BW = x.natAbs := Nat.mod_eq_of_lt (by rw [BW_eq]; omega)
  rw [hm] at HU
  clear hs hx hm hc1
  by_cases h0 : x < 0
  · have hd : decide (x < 0) = true := by simp [h0]
    rw [hd] at hc0
    have e0 : (x.natAbs : Int) = -x := by omega
    rw [e0] at HU
    have e2 : wrap64 (-wrap64 (-x)) = x := by unfold wrap64; omega
    clear hd
    go_enter Tryd.func16, Tryd.ntmps16
    go_wp2_with (go_at_call 32; refine HU.out.mono ?_; rintro e w' ⟨rfl, rfl⟩)
    go_ret
    exact ⟨by show Ending.returned (.int .i64 (wrap64 (-wrap64 (-x)))) = _; rw [e2], rfl⟩
  · have hd : decide (x < 0) = false := by simp [h0]
    rw [hd] at hc0
    have e0 : (x.natAbs : Int) = x := by omega
    rw [e0] at HU
    have e2 : wrap64 x = x := by unfold wrap64; omega
    clear hd
    go_enter Tryd.func16, Tryd.ntmps16
    go_wp2_with (go_at_call 32; refine HU.out.mono ?_; rintro e w' ⟨rfl, rfl⟩)
    go_ret
    exact ⟨rfl, rfl⟩
end Go.Proofs.YtedoeadhbcjjgaaDoor

/- big.Int: QuoRem, Rem, DivMod, Mod. (printed by gen_int.py) -/
namespace Go.Proofs.YtedoeadhbcjjgaaDoor
open Go.RowKit

theorem sgn_quo {x y : Int} {s t : Bool} (h : (s = true ↔ x < 0) ∧ (t = true ↔ y < 0)) : x.tdiv y < 0 ↔ ((s != t) = true ∧ x.natAbs / y.natAbs ≠ 0) := by
  have e : (s != t) = true ↔ ¬ (s = true ↔ t = true) := by cases s <;> cases t <;> simp
  have h1 : (x.tdiv y).natAbs = x.natAbs / y.natAbs := Int.natAbs_tdiv x y
  rw [e, h.1, h.2, ← h1]
  rcases Int.le_total 0 x with hx | hx
  · rcases Int.le_total 0 y with hy | hy
    · have := Int.tdiv_nonneg hx hy
      omega
    · have := Int.tdiv_nonpos_of_nonneg_of_nonpos hx hy
      rcases Int.lt_trichotomy y 0 with h0 | rfl | h0
      · omega
      · simp
      · omega
  · rcases Int.le_total 0 y with hy | hy
    · have h3 := Int.tdiv_nonneg (a := -x) (b := y) (by omega) hy
      rw [Int.neg_tdiv] at h3
      rcases Int.lt_trichotomy x 0 with h0 | rfl | h0
      · omega
      · simp
      · omega
    · have := Int.tdiv_nonneg_of_nonpos_of_nonpos hx hy
      rcases Int.lt_trichotomy x 0 with h0 | rfl | h0
      · rcases Int.lt_trichotomy y 0 with h4 | rfl | h4
        · omega
        · simp
        · omega
      · simp
      · omega
theorem sgn_rem {x y : Int} {s : Bool} (h : s = true ↔ x < 0) : x.tmod y < 0 ↔ (s = true ∧ x.natAbs % y.natAbs ≠ 0) := by
  have h1 : (x.tmod y).natAbs = x.natAbs % y.natAbs := Int.natAbs_tmod x y
  rw [h, ← h1]
  rcases Int.le_total 0 x with hx | hx
  · have := Int.tmod_nonneg y hx
    omega
  · have h3 := Int.tmod_nonneg (a := -x) y (by omega)
    rw [Int.neg_tmod] at h3
    rcases Int.lt_trichotomy x 0 with h0 | rfl | h0
    · omega
    · simp
    · omega

/-- What 'QuoRem' and 'DivMod' tell. -/
def QRPost (g gr : Nat) (q r : Int) (w : World) (e : Ending) (w' : World) : Prop := e = .returned (.tuple #[.pointer (some ⟨g, 0, none⟩), .pointer (some ⟨gr, 0, none⟩)]) ∧ BigAt w' g q ∧ BigAt w' gr r ∧ Fr [g, gr] w w'

set_option maxRecDepth 100000 in
set_option maxHeartbeats 4000000 in
theorem quoRem_any (g gx gy gr : Nat) (x y : Int) (w : World) (hg : IntBlk w g) (hx : BigAt w gx x) (hy : BigAt w gy y) (hr : IntBlk w gr) (hne : g ≠ gr) (hl : (limbs x.natAbs).length ≤ 100000000) (hl2 : (limbs y.natAbs).length ≤ 100000000) (hy0 : y ≠ 0) :
    Calls Tryd.prog 27 #[.pointer (some ⟨g, 0, none⟩), .pointer (some ⟨gx, 0, none⟩), .pointer (some ⟨gy, 0, none⟩), .pointer (some ⟨gr, 0, none⟩)] w (QRPost g gr (x.tdiv y) (x.tmod y) w) := by
  have HR := Lib.hid hr
  have HY0 := Lib.hid hy0
  obtain ⟨A, n, c, hc0, hc1, _, _, hs⟩ := hx.cells
  obtain ⟨B, m, d, hd0, hd1, _, _, ht⟩ := hy.cells
  have HS := Lib.hid hs
  have HT := Lib.hid ht
  have HG := Lib.hid hg
  have HL := Lib.hid (And.intro hl hl2)
  have hgl := hx.lt
  have hgm := hy.lt
  obtain ⟨s, hsd⟩ : ∃ s, s = decide (x < 0) := ⟨_, rfl⟩
  obtain ⟨t, htd⟩ : ∃ t, t = decide (y < 0) := ⟨_, rfl⟩
  rw [← hsd] at hc0
  rw [← htd] at hd0
  have HSD : Hid ((s = true ↔ x < 0) ∧ (t = true ↔ y < 0)) := Lib.hid (by rw [hsd, htd]; simp)
  clear hs ht hg hx hy hl hl2 hr hy0 hsd htd
  go_enter Tryd.func27, Tryd.ntmps27
  go_wp2_with fail
  have F1 : Hid (Fr [] w w.drew) := Lib.hid (Fr.refl [] w).drew
  refine wp_region_lex [false, false, false, false, false, false, false, false, true, false, false, false, false, true] (fun w' => w'.cell? ⟨gx, 1, none⟩ = some (.slice A n c) ∧ w'.cell? ⟨gy, 1, none⟩ = some (.slice B m d)) 13 (by kernel_rfl) (by kernel_rfl) (fun _ _ d _ _ h => by cases d <;> exact h) ⟨hc1, hd1⟩ ?_
  iterate 8 (refine lex_yield (by rfl) (by intro w hSw; (try dsimp only at hSw); go_simp; (try rfl)) ?_; simp only [Act.put, List.setIfInBounds_toArray, List.set_cons_zero, List.set_cons_succ])
  refine lex_step (by rfl) (by rfl) (fun K hK => ?_)
  go_simp
  go_at_call 50
  refine (over_any _ _ x.natAbs y.natAbs _ (HS.out.keep0 F1.out) (HT.out.keep0 F1.out) (by have := HL.out; omega) (by have := HL.out; omega) (by have := HY0.out; omega)).mono ?_
  rintro e w2 ⟨vq, vr, rfl, hoq, hor, hf⟩; have HOQ := Lib.hid hoq.sl; have HOR := Lib.hid hor.sl; have F2 := Lib.hid (F1.out.trans0 hf); have k0 := (hf.cell (p := ⟨gx, 0, none⟩) (by simpa using hgl) (by simp)).trans hc0; have k1 := (hf.cell (p := ⟨gx, 1, none⟩) (by simpa using hgl) (by simp)).trans hc1; have q0 := (hf.cell (p := ⟨gy, 0, none⟩) (by simpa using hgm) (by simp)).trans hd0; have q1 := (hf.cell (p := ⟨gy, 1, none⟩) (by simpa using hgm) (by simp)).trans hd1; clear hoq hor hf
  refine hK.out _ _ (fun _ => ⟨k1, q1⟩) ?_
  clear hK K
  try simp only [Act.put, List.setIfInBounds_toArray, List.set_cons_zero, List.set_cons_succ]
  iterate 4 (refine lex_yield (by rfl) (by intro w hSw; (try dsimp only at hSw); go_simp; (try rfl)) ?_; simp only [Act.put, List.setIfInBounds_toArray, List.set_cons_zero, List.set_cons_succ])
  refine lex_step (by rfl) (by rfl) (fun K hK => ?_)
  go_simp
  refine hK.out _ _ (fun h => absurd h (by decide)) ?_
  clear hK K
  refine lex_done ?_
  go_wp2_with fail
  go_quiet (fail)
  obtain ⟨wq, hwq⟩ : ∃ wq, wq = w2.drewN nq := ⟨_, rfl⟩
  rw [← hwq]
  have F3 : Hid (Fr [] w wq) := Lib.hid (by rw [hwq]; exact F2.out.drewN nq)
  have HOQ3 : Hid (SlU wq vq (limbs (x.natAbs / y.natAbs))) := Lib.hid (by rw [hwq]; exact HOQ.out.keep0 ((Fr.refl [] w2).drewN nq))
  have HOR3 : Hid (SlU wq vr (limbs (x.natAbs % y.natAbs))) := Lib.hid (by rw [hwq]; exact HOR.out.keep0 ((Fr.refl [] w2).drewN nq))
  clear hwq HOQ HOR hc0 hc1 hd0 hd1 k0 k1 q0 q1 hgl hgm
  have hlq := Nat.le_trans (limbs_length_mono (Nat.div_le_self x.natAbs y.natAbs)) HL.out.1
  have hlr := Nat.le_trans (limbs_length_mono (Nat.mod_le x.natAbs y.natAbs)) HL.out.1
  have HLQ := Lib.hid (And.intro hlq hlr)
  clear hlq hlr
  go_wp2_with fail
  refine (put_limbs g (s != t) _ (x.natAbs / y.natAbs) (x.tdiv y) _ (HG.out.keep F3.out (by simp)) HOQ3.out (by have := HLQ.out; omega) (Int.natAbs_tdiv x y) (sgn_quo HSD.out)).mono ?_
  rintro e w4 ⟨rfl, hb, hf⟩
  have HB := Lib.hid hb
  have F4 := Lib.hid hf
  have HOR4 := Lib.hid (HOR3.out.keepG (HG.out.keep F3.out (by simp)) hf)
  have HR4 := Lib.hid ((HR.out.keep F3.out (by simp)).keep hf (by simpa using Ne.symm hne))
  clear hb hf
  go_wp2_with fail
  refine (put_limbs gr s _ (x.natAbs % y.natAbs) (x.tmod y) _ HR4.out HOR4.out (by have := HLQ.out; omega) (Int.natAbs_tmod x y) (sgn_rem HSD.out.1)).mono ?_
  rintro e w5 ⟨rfl, hb, hf⟩
  have HB5 := Lib.hid hb
  have F5 := Lib.hid hf
  have HB6 := Lib.hid (HB.out.keep hf (AreInts.one HR4.out) (by simpa using hne))
  clear hb hf
  go_wp2
  go_ret2
  exact ⟨rfl, HB6.out, HB5.out, (F3.out.then_ ((F4.out.mono (T := [g, gr]) (by simp)).trans F5.out (by simp)))⟩

end Go.Proofs.YtedoeadhbcjjgaaDoor

/- big.Int: Rem, DivMod, Mod (by what is above 0), Cmp. -/
namespace Go.Proofs.YtedoeadhbcjjgaaDoor
open Go.RowKit

theorem Fr.own2 {w a b : World} {h g : Nat} (f : Fr [] w a) (k : Fr [h, g] a b) (hh : w.heap.size ≤ h) : Fr [g] w b :=
  (f.mono (T := [g]) (by simp)).trans k (by intro x hx hlt; simp at hx ⊢; omega)

set_option maxRecDepth 100000 in
set_option maxHeartbeats 4000000 in
theorem rem_any (g gx gy : Nat) (x y : Int) (w : World) (hg : IntBlk w g) (hx : BigAt w gx x) (hy : BigAt w gy y) (hl : (limbs x.natAbs).length ≤ 100000000) (hl2 : (limbs y.natAbs).length ≤ 100000000) (hy0 : y ≠ 0) :
    Calls Tryd.prog 45 #[.pointer (some ⟨g, 0, none⟩), .pointer (some ⟨gx, 0, none⟩), .pointer (some ⟨gy, 0, none⟩)] w (BigPost g (x.tmod y) w) := by
  have HG := Lib.hid hg
  have HX := Lib.hid hx
  have HY := Lib.hid hy
  have HL := Lib.hid (And.intro hl hl2)
  have HY0 := Lib.hid hy0
  have hglt := hg.lt
  clear hg hx hy hl hl2 hy0
  go_enter Tryd.func45, Tryd.ntmps45
  go_wp2_with fail
  have F : Hid (Fr [] w (w.alloc (.cells #[.bool false, .slice none 0 0] 38))) := Lib.hid ((Fr.refl [] w).alloc _)
  refine (quoRem_any w.heap.size gx gy g x y _ (BigAt_new w).blk (HX.out.keep0 F.out) (HY.out.keep0 F.out) (HG.out.keep F.out (by simp)) (by omega) HL.out.1 HL.out.2 HY0.out).mono ?_
  rintro e w1 ⟨rfl, _, hb, hf⟩
  have HB := Lib.hid hb
  have F2 := Lib.hid (F.out.own2 hf (Nat.le_refl _))
  clear hb hf
  go_wp2
  go_ret
  exact ⟨rfl, HB.out, F2.out⟩

theorem ediv_of_neg {x y : Int} (hy : 0 < y) (h : x.tmod y < 0) : x / y = x.tdiv y - 1 ∧ x % y = x.tmod y + y := by
  rw [Int.ediv_emod_unique hy]
  have h1 := Int.tmod_add_mul_tdiv x y
  have h2 : (x.tmod y).natAbs = x.natAbs % y.natAbs := Int.natAbs_tmod x y
  have h3 := Nat.mod_lt x.natAbs (show 0 < y.natAbs by omega)
  refine ⟨?_, by omega, by omega⟩
  rw [Int.mul_sub, Int.mul_one]; omega
theorem ediv_of_nonneg {x y : Int} (hy : 0 < y) (h : ¬ x.tmod y < 0) : x / y = x.tdiv y ∧ x % y = x.tmod y := by
  rw [Int.ediv_emod_unique hy]
  have h1 := Int.tmod_add_mul_tdiv x y
  have h2 : (x.tmod y).natAbs = x.natAbs % y.natAbs := Int.natAbs_tmod x y
  have h3 := Nat.mod_lt x.natAbs (show 0 < y.natAbs by omega)
  exact ⟨h1, by omega, by omega⟩

set_option maxRecDepth 100000 in
set_option maxHeartbeats 4000000 in
theorem divMod_any (g gx gy gm : Nat) (x y : Int) (w : World) (hg : IntBlk w g) (hx : BigAt w gx x) (hy : BigAt w gy y) (hm : IntBlk w gm) (hne : g ≠ gm) (hl : (limbs x.natAbs).length ≤ 10000000) (hl2 : (limbs y.natAbs).length ≤ 10000000) (hy0 : 0 < y) :
    Calls Tryd.prog 47 #[.pointer (some ⟨g, 0, none⟩), .pointer (some ⟨gx, 0, none⟩), .pointer (some ⟨gy, 0, none⟩), .pointer (some ⟨gm, 0, none⟩)] w (QRPost g gm (x / y) (x % y) w) := by
  have HG := Lib.hid hg
  have HX := Lib.hid hx
  have HY := Lib.hid hy
  have HM := Lib.hid hm
  have HL := Lib.hid (And.intro hl hl2)
  have HY0 := Lib.hid hy0
  have hglt := hg.lt
  have hmlt := hm.lt
  have hxlt := hx.lt
  clear hg hx hy hl hl2 hy0 hm
  go_enter Tryd.func47, Tryd.ntmps47
  go_wp2_with fail
  have F : Hid (Fr [] w (w.alloc (.cells #[.bool false, .slice none 0 0] 38))) := Lib.hid ((Fr.refl [] w).alloc _)
  refine (set_any w.heap.size gy y _ (BigAt_new w).blk (HY.out.keep0 F.out) (by have := HL.out; omega)).mono ?_
  rintro e w1 ⟨rfl, hb, hf⟩
  have HB := Lib.hid hb
  have F1 : Hid (Fr [] w w1) := Lib.hid (F.out.own1 hf (Nat.le_refl _))
  clear hb hf F
  go_wp2_with fail
  refine (quoRem_any g gx w.heap.size gm x y w1 (HG.out.keep F1.out (by simp)) (HX.out.keep0 F1.out) HB.out (HM.out.keep F1.out (by simp)) hne (by have := HL.out; omega) (by have := HL.out; omega) (by have := HY0.out; omega)).mono ?_
  rintro e w2 ⟨rfl, hq, hr, hf⟩
  have HQ := Lib.hid hq
  have HR := Lib.hid hr
  have hyl := HB.out.lt
  have HB2 := Lib.hid (HB.out.keep hf (by
    intro k hk _
    simp only [List.mem_cons, List.not_mem_nil, or_false] at hk
    rcases hk with rfl | rfl
    · exact HG.out.keep F1.out (by simp)
    · exact HM.out.keep F1.out (by simp)) (by simp; omega))
  have F2 := Lib.hid (F1.out.then_ hf)
  obtain ⟨_, _, _, hr0, _, _, _, _⟩ := hr.cells
  obtain ⟨_, _, _, hy0, _, _, _, _⟩ := HB2.out.cells
  have hyneg : decide (y < 0) = false := by have := HY0.out; simp; omega
  rw [hyneg] at hy0
  clear hq hr hf HB hyneg
  by_cases hneg : x.tmod y < 0
  · have hd : decide (x.tmod y < 0) = true := by simp [hneg]
    rw [hd] at hr0
    have HE := Lib.hid (ediv_of_neg HY0.out hneg)
    clear hd hneg
    go_wp2_with fail
    refine (newInt_any 1 _ (by unfold Ri; omega)).mono ?_
    rintro e w3 ⟨h1, rfl, hh1, hb1, hf1⟩
    have HB1 := Lib.hid hb1
    have F3 := Lib.hid hf1
    have hsz := F2.out.size
    clear hb1 hf1 hr0 hy0
    go_wp2_with fail
    have hgi := (HG.out.keep F1.out (by simp))
    have HQ3 := Lib.hid (HQ.out.keep0 F3.out)
    refine (sub_any g g h1 (x.tdiv y) 1 _ HQ3.out.blk HQ3.out HB1.out (by have := limbs_length_mono (Int.natAbs_tdiv_le_natAbs x y); have := HL.out; omega) (by rw [show (1 : Int).natAbs = 1 from rfl, limbs_small (by omega) (by rw [BW_eq]; omega)]; simp)).mono ?_
    rintro e w4 ⟨rfl, hb4, hf4⟩
    have HB4 := Lib.hid hb4
    have F4 := Lib.hid hf4
    have HR4 := Lib.hid ((HR.out.keep0 F3.out).keep1 hf4 HQ3.out (Ne.symm hne))
    have HB24 := Lib.hid ((HB2.out.keep0 F3.out).keep1 hf4 HQ3.out (by omega))
    clear hb4 hf4 hgi
    go_wp2_with fail
    refine (add_any gm gm w.heap.size (x.tmod y) y _ HR4.out.blk HR4.out HB24.out (by rw [Int.natAbs_tmod]; have := limbs_length_mono (Nat.mod_le x.natAbs y.natAbs); have := HL.out; omega) (by have := HL.out; omega)).mono ?_
    rintro e w5 ⟨rfl, hb5, hf5⟩
    have HB5 := Lib.hid hb5
    have F5 := Lib.hid hf5
    have HB45 := Lib.hid (HB4.out.keep1 hf5 HR4.out hne)
    clear hb5 hf5
    go_wp2
    go_ret2
    refine ⟨rfl, by rw [HE.out.1]; exact HB45.out, by rw [HE.out.2]; exact HB5.out, ?_⟩
    exact ((F2.out.trans0 F3.out).trans (F4.out.mono (T := [g, gm]) (by simp)) (by simp)).trans F5.out (by simp)
  · have hd : decide (x.tmod y < 0) = false := by simp [hneg]
    rw [hd] at hr0
    have HE := Lib.hid (ediv_of_nonneg HY0.out hneg)
    clear hd hneg
    go_wp2
    go_ret2
    exact ⟨rfl, by rw [HE.out.1]; exact HQ.out, by rw [HE.out.2]; exact HR.out, F2.out⟩

set_option maxRecDepth 100000 in
set_option maxHeartbeats 4000000 in
theorem mod_any (g gx gy : Nat) (x y : Int) (w : World) (hg : IntBlk w g) (hx : BigAt w gx x) (hy : BigAt w gy y) (hl : (limbs x.natAbs).length ≤ 10000000) (hl2 : (limbs y.natAbs).length ≤ 10000000) (hy0 : 0 < y) :
    Calls Tryd.prog 24 #[.pointer (some ⟨g, 0, none⟩), .pointer (some ⟨gx, 0, none⟩), .pointer (some ⟨gy, 0, none⟩)] w (BigPost g (x % y) w) := by
  have HG := Lib.hid hg
  have HX := Lib.hid hx
  have HY := Lib.hid hy
  have HL := Lib.hid (And.intro hl hl2)
  have HY0 := Lib.hid hy0
  have hglt := hg.lt
  clear hg hx hy hl hl2 hy0
  go_enter Tryd.func24, Tryd.ntmps24
  go_wp2_with fail
  have F : Hid (Fr [] w (w.alloc (.cells #[.bool false, .slice none 0 0] 38))) := Lib.hid ((Fr.refl [] w).alloc _)
  refine (divMod_any w.heap.size gx gy g x y _ (BigAt_new w).blk (HX.out.keep0 F.out) (HY.out.keep0 F.out) (HG.out.keep F.out (by simp)) (by omega) HL.out.1 HL.out.2 HY0.out).mono ?_
  rintro e w1 ⟨rfl, _, hb, hf⟩
  have HB := Lib.hid hb
  have F2 := Lib.hid (F.out.own2 hf (Nat.le_refl _))
  clear hb hf
  go_wp2
  go_ret
  exact ⟨rfl, HB.out, F2.out⟩
end Go.Proofs.YtedoeadhbcjjgaaDoor
