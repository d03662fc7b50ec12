/- Joined by program (merge.py) out of 3 texts, a part of the proof: contracts of the functions that the statement reaches, and plain mathematics. No statement of the seat stands here. -/
import Derived.Test.YtedoeadhbcjjgaaDoorG16
/- rosetteref00: Whole, Zero, Top, TellInt; rosettemade.Small. -/
namespace Go.Proofs.YtedoeadhbcjjgaaDoor
open Go.RowKit

/-- A whole number of api, as a value. -/
def IntV (w : World) (v : Value) (z : Int) : Prop := ∃ A n c, v = .agg #[.bool (decide (z < 0)), .slice A n c] ∧ SlU w (.slice A n c) (limbs z.natAbs)
theorem IntV.keep {w w' : World} {v : Value} {z : Int} {S : List Nat} (h : IntV w v z) (f : Fr S w w') (hS : AreInts w S) : IntV w' v z := by
  obtain ⟨A, n, c, e, hs⟩ := h
  exact ⟨A, n, c, e, hs.keep f hS⟩
theorem IntV.keep0 {w w' : World} {v : Value} {z : Int} (h : IntV w v z) (f : Fr [] w w') : IntV w' v z := h.keep f (AreInts.nil w)
def NumPost (neg : Bool) (a : Nat) (w : World) (e : Ending) (w' : World) : Prop := ∃ v, e = .returned v ∧ NumV w' v neg (limbs a) ∧ Fr [] w w'
theorem NumV.keep {w w' : World} {v : Value} {neg : Bool} {xs : List Nat} {S : List Nat} (h : NumV w v neg xs) (f : Fr S w w') (hS : AreInts w S) : NumV w' v neg xs := by
  obtain ⟨A, c, e, hs⟩ := h
  exact ⟨A, c, e, hs.keep f hS⟩
theorem NumV.keep0 {w w' : World} {v : Value} {neg : Bool} {xs : List Nat} (h : NumV w v neg xs) (f : Fr [] w w') : NumV w' v neg xs := h.keep f (AreInts.nil w)

theorem fresh_cell {w w1 : World} {cs : Array Value} {T : TypeId} (f : Fr [] (w.alloc (.cells cs T)) w1) (j : Nat) : w1.cell? ⟨w.heap.size, j, none⟩ = cs[j]? :=
  (f.cell (p := ⟨w.heap.size, j, none⟩) (by simp) (by simp)).trans (cell_of_row _ _ j cs T (0, 0) (heap_alloc_new w _))
theorem fresh_free {w w1 : World} {cs : Array Value} {T : TypeId} (f : Fr [] (w.alloc (.cells cs T)) w1) (j : Nat) : w1.frozen? ⟨w.heap.size, j, none⟩ = false :=
  (f.frozen (p := ⟨w.heap.size, j, none⟩) (by simp) (by simp)).trans (frozen_of_row _ _ j _ _ (heap_alloc_new w _))
theorem u64_neg (n : Int) (h1 : -9223372036854775808 ≤ n) (h2 : n < 0) : IntKind.u64.wrap (-IntKind.u64.wrap n) = -n := by
  simp [IntKind.wrap, IntKind.bits, IntKind.signed]; omega

set_option maxRecDepth 100000 in
set_option maxHeartbeats 4000000 in
theorem whole_any (n : Int) (w : World) (hn : Ri n) : Calls Tryd.prog 43 #[.int .i64 n] w (NumPost (decide (n < 0)) n.natAbs w) := by
  obtain ⟨h1, h2⟩ := hn
  obtain ⟨a, ha⟩ : ∃ a, a = n.natAbs := ⟨_, rfl⟩
  have hab : a ≤ 9223372036854775808 := by omega
  have HAB : Hid (a < BW) := Lib.hid (by rw [BW_eq]; omega)
  have HA := Lib.hid ha
  by_cases h0 : n < 0
  · have e1 : IntKind.u64.wrap (-IntKind.u64.wrap n) = (a : Int) := by rw [u64_neg n h1 h0]; omega
    have hd : decide (n < 0) = true := by simp [h0]
    rw [hd]
    clear ha h0
    go_enter Tryd.func43, Tryd.ntmps43
    go_wp2_with fail
    refine (natOf_any a _ HAB.out).mono ?_
    rintro e w1 ⟨v', rfl, ho, hf⟩
    obtain ⟨A, c, rfl, hc, _⟩ := ho.sl.open_
    have HB : Hid (∀ k, Value.ownBlock (.slice A (limbs a).length c) = some k → k ∉ [w.heap.size]) := Lib.hid (by intro k hk; have := (ho.lt hk).1; simp at this; simp; omega)
    have HO := Lib.hid ho.sl
    have F1 : Hid (Fr [] w w1) := Lib.hid (((Fr.refl [] w).alloc _).trans0 hf)
    have c0 := fresh_cell hf 0
    have c1 := fresh_cell hf 1
    have c2 := fresh_cell hf 2
    have f0 := fresh_free hf
    simp at c0 c1 c2
    clear ho hf
    go_wp2_with fail
    refine bodyPost_ret (v := .agg #[.bool true, .slice A (limbs a).length c, .int .i64 0]) (by simp [results, Tryd.results43, go_sem, c0, c1, c2, f0]) rfl ?_
    have F3 : Fr [w.heap.size] w1 _ := ((((Fr.refl [w.heap.size] w1).setCell (p := ⟨w.heap.size, 0, none⟩) (by simp) (.bool true)).setCell (p := ⟨w.heap.size, 1, none⟩) (by simp) (.slice A (limbs a).length c)).setCell (p := ⟨w.heap.size, 2, none⟩) (by simp) (.int .i64 0))
    exact ⟨_, rfl, ⟨A, c, by rw [← HA.out], by rw [← HA.out]; exact HO.out.keepB F3 HB.out⟩, F1.out.own1 F3 (Nat.le_refl _)⟩
  · have e1 : IntKind.u64.wrap n = (a : Int) := by rw [IntWalk.u64_in _ (by omega)]; omega
    have hd : decide (n < 0) = false := by simp [h0]
    rw [hd]
    clear ha h0
    go_enter Tryd.func43, Tryd.ntmps43
    go_wp2_with fail
    refine (natOf_any a _ HAB.out).mono ?_
    rintro e w1 ⟨v', rfl, ho, hf⟩
    obtain ⟨A, c, rfl, hc, _⟩ := ho.sl.open_
    have HB : Hid (∀ k, Value.ownBlock (.slice A (limbs a).length c) = some k → k ∉ [w.heap.size]) := Lib.hid (by intro k hk; have := (ho.lt hk).1; simp at this; simp; omega)
    have HO := Lib.hid ho.sl
    have F1 : Hid (Fr [] w w1) := Lib.hid (((Fr.refl [] w).alloc _).trans0 hf)
    have c0 := fresh_cell hf 0
    have c1 := fresh_cell hf 1
    have c2 := fresh_cell hf 2
    have f0 := fresh_free hf
    simp at c0 c1 c2
    clear ho hf
    go_wp2_with fail
    refine bodyPost_ret (v := .agg #[.bool false, .slice A (limbs a).length c, .int .i64 0]) (by simp [results, Tryd.results43, go_sem, c0, c1, c2, f0]) rfl ?_
    have F3 : Fr [w.heap.size] w1 _ := ((((Fr.refl [w.heap.size] w1).setCell (p := ⟨w.heap.size, 0, none⟩) (by simp) (.bool false)).setCell (p := ⟨w.heap.size, 1, none⟩) (by simp) (.slice A (limbs a).length c)).setCell (p := ⟨w.heap.size, 2, none⟩) (by simp) (.int .i64 0))
    exact ⟨_, rfl, ⟨A, c, by rw [← HA.out], by rw [← HA.out]; exact HO.out.keepB F3 HB.out⟩, F1.out.own1 F3 (Nat.le_refl _)⟩

set_option maxRecDepth 100000 in
set_option maxHeartbeats 4000000 in
theorem zero_any (v : Value) (neg : Bool) (xs : List Nat) (w : World) (hv : NumV w v neg xs) (hl : xs.length ≤ 100000000) :
    Calls Tryd.prog 62 #[v] w fun e w' => e = .returned (.bool (decide (val xs = 0))) ∧ Fr [] w w' := by
  obtain ⟨A, c, rfl, hs⟩ := hv
  have F0 : Hid (Fr [] w (w.alloc (.cells #[.bool neg, .slice A xs.length c, .int .i64 0] 72))) := Lib.hid ((Fr.refl [] w).alloc _)
  have HS := Lib.hid (hs.keep0 F0.out)
  have HL := Lib.hid hl
  clear hs hl
  go_enter Tryd.func62, Tryd.ntmps62
  go_wp2_with fail
  refine (natBits_any _ xs _ HS.out HL.out).mono ?_
  rintro e w1 ⟨N, hN, rfl, hf⟩
  have F1 : Hid (Fr [] w w1) := Lib.hid (F0.out.trans0 hf)
  by_cases h0 : N = 0
  · have e0 : ((N : Int) == 0) = true := by simp [h0]
    have HZ : Hid (decide (val xs = 0) = true) := Lib.hid (by simp [hN.zero_iff.1 h0])
    clear hN h0 hf
    go_wp2
    go_ret
    exact ⟨by rw [HZ.out]; rfl, F1.out⟩
  · have e0 : ((N : Int) == 0) = false := by simpa using h0
    have HZ : Hid (decide (val xs = 0) = false) := Lib.hid (by simp; exact fun h => h0 (hN.zero_iff.2 h))
    clear hN h0 hf
    go_wp2
    go_ret
    exact ⟨by rw [HZ.out]; rfl, F1.out⟩

set_option maxRecDepth 100000 in
set_option maxHeartbeats 4000000 in
theorem top_any (v : Value) (neg : Bool) (xs : List Nat) (w : World) (hv : NumV w v neg xs) (hl : xs.length ≤ 100000000) :
    Calls Tryd.prog 63 #[v] w (BitsPost (val xs) w) := by
  obtain ⟨A, c, rfl, hs⟩ := hv
  have F0 : Hid (Fr [] w (w.alloc (.cells #[.bool neg, .slice A xs.length c, .int .i64 0] 72)).drew) := Lib.hid ((Fr.refl [] w).alloc _).drew
  have HS := Lib.hid (hs.keep0 F0.out)
  have HL := Lib.hid hl
  have hc1 : (w.alloc (.cells #[.bool neg, .slice A xs.length c, .int .i64 0] 72)).cell? ⟨w.heap.size, 1, none⟩ = some (.slice A xs.length c) := by simp [World.cell?_alloc_new]
  have hc2 : (w.alloc (.cells #[.bool neg, .slice A xs.length c, .int .i64 0] 72)).cell? ⟨w.heap.size, 2, none⟩ = some (.int .i64 0) := by simp [World.cell?_alloc_new]
  clear hs hl
  go_enter Tryd.func63, Tryd.ntmps63
  go_wp2_with fail
  refine wp_region_lexP [(0, false), (1, false), (2, false), (3, false), (4, true), (5, false), (6, true)] (fun w' => w'.cell? ⟨w.heap.size, 1, none⟩ = some (.slice A xs.length c) ∧ w'.cell? ⟨w.heap.size, 2, none⟩ = some (.int .i64 0)) 6 (by kernel_rfl) (by kernel_rfl) (fun _ _ d _ _ h => by cases d <;> exact h) ⟨hc1, hc2⟩ ?_
  iterate 4 (refine lexP_yield (by rfl) (by rfl) (by intro w hSw; (try dsimp only at hSw); go_simp; (try rfl)) ?_; simp only [Act.put, List.setIfInBounds_toArray, List.set_cons_zero, List.set_cons_succ])
  refine lexP_step (by rfl) (by rfl) (fun K hK => ?_)
  go_simp
  go_at_call 83
  refine (natBits_any _ xs _ HS.out HL.out).mono ?_
  rintro e w1 ⟨N, hN, rfl, hf⟩
  have HN := Lib.hid hN
  have hNb := hN.le
  have hLL := limbs_length_mono (show val xs ≤ val xs from Nat.le_refl _)
  have hN2 : N ≤ 6400000000 := by
    have h1 : (limbs (val xs)).length ≤ xs.length := by rw [limbs_val HS.out.bd]; exact trimL_length xs
    have := HL.out
    omega
  have F1 : Hid (Fr [] w w1) := Lib.hid (F0.out.trans0 hf)
  refine hK.out _ _ (fun _ => ⟨(hf.cell (p := ⟨w.heap.size, 1, none⟩) (by simp [World.drew]) (by simp)).trans hc1, (hf.cell (p := ⟨w.heap.size, 2, none⟩) (by simp [World.drew]) (by simp)).trans hc2⟩) ?_
  clear hK K hf hN hNb hLL
  try simp only [Act.put, List.setIfInBounds_toArray, List.set_cons_zero, List.set_cons_succ]
  have e1 : IntKind.i64.wrap (0 + (N : Int)) = (N : Int) := by rw [Int.zero_add]; exact IntWalk.i64_in _ (by omega)
  have e2 : IntKind.i64.wrap (N : Int) = (N : Int) := IntWalk.i64_in _ (by omega)
  refine lexP_yield (by rfl) (by rfl) (by intro w hSw; (try dsimp only at hSw); go_simp; (try rfl)) ?_
  simp only [Act.put, List.setIfInBounds_toArray, List.set_cons_zero, List.set_cons_succ]
  refine lexP_step (by rfl) (by rfl) (fun K hK => ?_)
  go_simp
  refine hK.out _ _ (fun h => absurd h (by decide)) ?_
  clear hK K
  refine lexP_done ?_
  go_wp2
  go_ret
  exact ⟨N, HN.out, rfl, F1.out⟩
end Go.Proofs.YtedoeadhbcjjgaaDoor

/- rosetteref00.TellInt; rosettemade.Small. -/
namespace Go.Proofs.YtedoeadhbcjjgaaDoor
open Go.RowKit

def sgnN (neg : Bool) (a : Nat) : Int := if neg then -(a : Int) else a
theorem sgnN_natAbs (neg : Bool) (a : Nat) : (sgnN neg a).natAbs = a := by unfold sgnN; split <;> omega
theorem sgnN_neg {neg : Bool} {a : Nat} (h : a ≠ 0) : decide (sgnN neg a < 0) = neg := by
  unfold sgnN
  cases neg
  · simp
  · simp; omega
theorem sgnN_zero (neg : Bool) : sgnN neg 0 = 0 := by unfold sgnN; split <;> rfl
theorem sgnN_self (n : Int) : sgnN (decide (n < 0)) n.natAbs = n := by unfold sgnN; by_cases h : n < 0 <;> simp [h] <;> omega

/-- A slice of limbs lies in no block whose cells are others. -/
theorem SlU.keepNU {w w' : World} {v : Value} {xs : List Nat} {g : Nat} {cs : Array Value} {T : TypeId} (h : SlU w v xs) (hg : w.heap[g]? = some (.cells cs T (0, 0))) (hcs : ∀ u ∈ cs.toList, ∀ n, u ≠ .int .u64 n) (f : Fr [g] w w') : SlU w' v xs := by
  obtain ⟨A, c, rfl, hc, hb, hx, ht⟩ := h
  have hne : ∀ b o, A = some ⟨b, o, none⟩ → 0 < xs.length → b ≠ g := by
    rintro b o rfl hl rfl
    obtain ⟨b', o', e, h⟩ := hx (by rwa [u64s_length])
    simp only [Option.some.injEq, Addr.mk.injEq, and_true] at e
    obtain ⟨rfl, rfl⟩ := e
    have h0 := h 0 (by rwa [u64s_length])
    rw [u64s_at hl, cell_of_row w _ _ cs T (0, 0) hg] at h0
    exact hcs _ (by have := Array.mem_of_getElem? h0; simpa using this) _ rfl
  refine ⟨A, c, rfl, hc, hb, fun hl => ?_, fun hl b o e => by
    obtain ⟨cs', fr, h2⟩ := ht hl b o e
    exact ⟨cs', fr, (f.block b (Array.getElem?_eq_some_iff.1 h2).1 (by simpa using hne b o e hl)).trans h2⟩⟩
  obtain ⟨b, o, rfl, h⟩ := hx hl
  refine ⟨b, o, rfl, fun j hj => ?_⟩
  have h0 := h j hj
  have hj2 : j < xs.length := by rwa [u64s_length] at hj
  rw [u64s_at hj2] at h0 ⊢
  rw [f.cell (World.block_lt_of_cell? w _ h0) ?_]
  · exact h0
  · intro hm
    simp only [List.mem_singleton] at hm
    have hm2 : b = g := hm
    subst hm2
    rw [cell_of_row w b (o + j) cs T (0, 0) hg] at h0
    have hmem : Value.int IntKind.u64 ((xs.getD j 0 : Nat) : Int) ∈ cs.toList := by
      have := Array.mem_of_getElem? h0
      simpa using this
    exact hcs _ hmem _ rfl
theorem IntV.keepNU {w w' : World} {v : Value} {z : Int} {g : Nat} {cs : Array Value} {T : TypeId} (h : IntV w v z) (hg : w.heap[g]? = some (.cells cs T (0, 0))) (hcs : ∀ u ∈ cs.toList, ∀ n, u ≠ .int .u64 n) (f : Fr [g] w w') : IntV w' v z := by
  obtain ⟨A, n, c, e, hs⟩ := h
  exact ⟨A, n, c, e, hs.keepNU hg hcs f⟩

/-- .. whose limbs lie in a row made from block 'base' on. -/
def IntO (w : World) (base : Nat) (v : Value) (z : Int) : Prop := ∃ A n c, v = .agg #[.bool (decide (z < 0)), .slice A n c] ∧ OwU w base (.slice A n c) (limbs z.natAbs)
theorem IntO.v {w : World} {base : Nat} {v : Value} {z : Int} (h : IntO w base v z) : IntV w v z := by
  obtain ⟨A, n, c, e, hs⟩ := h
  exact ⟨A, n, c, e, hs.sl⟩
theorem IntO.keep0 {w w' : World} {base : Nat} {v : Value} {z : Int} (h : IntO w base v z) (f : Fr [] w w') : IntO w' base v z := by
  obtain ⟨A, n, c, e, hs⟩ := h
  exact ⟨A, n, c, e, hs.keep0 f⟩
theorem IntO.base_le {w : World} {base base' : Nat} {v : Value} {z : Int} (h : IntO w base v z) (hb : base' ≤ base) : IntO w base' v z := by
  obtain ⟨A, n, c, e, hs⟩ := h
  exact ⟨A, n, c, e, hs.base_le hb⟩
def TellPost (z : Int) (w : World) (e : Ending) (w' : World) : Prop := ∃ v, e = .returned (.tuple #[v, .bool true]) ∧ IntO w' (w.heap.size + 1) v z ∧ Fr [] w w'

set_option maxRecDepth 100000 in
set_option maxHeartbeats 8000000 in
theorem tellInt_any (v : Value) (neg : Bool) (xs : List Nat) (w : World) (hv : NumV w v neg xs) (hl : xs.length ≤ 100000000) (hl2 : (limbs (val xs)).length ≤ 4096) :
    Calls Tryd.prog 42 #[v] w (TellPost (sgnN neg (val xs)) w) := by
  obtain ⟨A, c, rfl, hs⟩ := hv
  obtain ⟨w0, hw0⟩ : ∃ w0, w0 = (w.alloc (.cells #[.bool neg, .slice A xs.length c, .int .i64 0] 72)).alloc (.cells #[.bool false, .slice none 0 0] 44) := ⟨_, rfl⟩
  have f0 : Fr [] w w0 := by rw [hw0]; exact ((Fr.refl [] w).alloc _).alloc _
  have F0 := Lib.hid f0
  have HS := Lib.hid (hs.keep0 f0)
  have HL := Lib.hid hl
  have HL2 := Lib.hid hl2
  have hb1 : w0.heap[w.heap.size]? = some (.cells #[.bool neg, .slice A xs.length c, .int .i64 0] 72 (0, 0)) := by
    rw [hw0]; exact (Below.heap_alloc _ _ _ (by simp)).trans (heap_alloc_new _ _)
  have hb2 : w0.heap[w.heap.size + 1]? = some (.cells #[.bool false, .slice none 0 0] 44 (0, 0)) := by
    rw [hw0]
    have h := heap_alloc_new (w.alloc (.cells #[.bool neg, .slice A xs.length c, .int .i64 0] 72)) (.cells #[.bool false, .slice none 0 0] 44)
    rwa [show (w.alloc (.cells #[.bool neg, .slice A xs.length c, .int .i64 0] 72)).heap.size = w.heap.size + 1 by simp] at h
  have HB1 := Lib.hid hb1
  have HB2 := Lib.hid hb2
  have hz0 : w.heap.size + 1 < w0.heap.size := (Array.getElem?_eq_some_iff.1 hb2).1
  have c10 := fun j => cell_of_row w0 w.heap.size j _ _ _ hb1
  have a0 := c10 0
  have a1 := c10 1
  have a2 := c10 2
  have c20 := fun j => cell_of_row w0 (w.heap.size + 1) j _ _ _ hb2
  have b0 := c20 0
  have b1 := c20 1
  have fz2 : ∀ j, w0.frozen? ⟨w.heap.size + 1, j, none⟩ = false := fun j => frozen_of_row w0 (w.heap.size + 1) j _ _ hb2
  have HNW : ∀ w1, Fr [] w0 w1 → Hid (w1.cell? ⟨w.heap.size, 0, none⟩ = some (.bool neg) ∧ w1.cell? ⟨w.heap.size, 1, none⟩ = some (.slice A xs.length c) ∧ w1.cell? ⟨w.heap.size, 2, none⟩ = some (.int .i64 0) ∧ w1.cell? ⟨w.heap.size + 1, 0, none⟩ = some (.bool false) ∧ w1.cell? ⟨w.heap.size + 1, 1, none⟩ = some (.slice none 0 0) ∧ ∀ j, w1.frozen? ⟨w.heap.size + 1, j, none⟩ = false) := by
    intro w1 f
    simp only [List.getElem?_toArray, List.getElem?_cons_zero, List.getElem?_cons_succ] at a0 a1 a2 b0 b1
    refine Lib.hid ⟨(f.cell (p := ⟨w.heap.size, 0, none⟩) (by show w.heap.size < _; omega) (by simp)).trans a0, (f.cell (p := ⟨w.heap.size, 1, none⟩) (by show w.heap.size < _; omega) (by simp)).trans a1, (f.cell (p := ⟨w.heap.size, 2, none⟩) (by show w.heap.size < _; omega) (by simp)).trans a2,
      (f.cell (p := ⟨w.heap.size + 1, 0, none⟩) hz0 (by simp)).trans b0, (f.cell (p := ⟨w.heap.size + 1, 1, none⟩) hz0 (by simp)).trans b1, fun j => (f.frozen (p := ⟨w.heap.size + 1, j, none⟩) hz0 (by simp)).trans (fz2 j)⟩
  have HNW' := Lib.hid HNW
  clear hs hl hl2 c10 c20 a0 a1 a2 b0 b1 fz2 hb1 hb2 HNW f0
  go_enter Tryd.func42, Tryd.ntmps42
  go_wp2_with fail
  rw [← hw0]
  refine (zero_any _ neg xs w0 ⟨A, c, rfl, HS.out⟩ HL.out).mono ?_
  rintro e w1 ⟨rfl, hf⟩
  have F1 := Lib.hid hf
  have HS1 := Lib.hid (HS.out.keep0 hf)
  obtain ⟨p0, p1, p2, p3, p4, p5⟩ := (HNW'.out w1 hf).out
  clear hf hw0
  by_cases h0 : val xs = 0
  · have hd : decide (val xs = 0) = true := by simp [h0]
    have H0 := Lib.hid h0
    clear h0
    go_wp2_with fail
    have F3 : Fr [w.heap.size + 1] w1 _ := (((Fr.refl [w.heap.size + 1] w1).setCell (p := ⟨w.heap.size + 1, 0, none⟩) (by simp) (.bool false)).setCell (p := ⟨w.heap.size + 1, 1, none⟩) (by simp) (.slice none 0 0))
    exact bodyPost_ret (v := .tuple #[.agg #[.bool false, .slice none 0 0], .bool true]) (by simp [results, Tryd.results42, go_sem, p3, p4, p5]) rfl ⟨_, rfl, ⟨none, 0, 0, by rw [H0.out, sgnN_zero]; rfl, by rw [H0.out, sgnN_zero]; rw [show (0 : Int).natAbs = 0 from rfl, limbs_zero]; exact OwU_nil _ _⟩, (F0.out.trans0 F1.out).own1 F3 (by omega)⟩
  · have hd : decide (val xs = 0) = false := by simp [h0]
    have H0 := Lib.hid h0
    clear h0
    go_wp2_with fail
    refine (top_any _ neg xs w1 ⟨A, c, rfl, HS1.out⟩ HL.out).mono ?_
    rintro e w2 ⟨N, hN, rfl, hf⟩
    have hNb := hN.le
    have F2 := Lib.hid (F1.out.trans0 hf)
    have HS2 := Lib.hid (HS1.out.keep0 hf)
    have hle := HL2.out
    have e1 : decide ((262144 : Int) < (N : Int)) = false := by simp; omega
    clear hf hN hNb hle p0 p1 p2 p3 p4 p5
    obtain ⟨p0, p1, p2, p3, p4, p5⟩ := (HNW'.out w2 F2.out).out
    go_wp2_with fail
    refine wp_region_lexP [(0, false), (1, false), (2, false), (3, false), (4, false), (5, false), (6, true), (7, false), (8, true), (9, true)] (fun w' => w'.cell? ⟨w.heap.size, 0, none⟩ = some (.bool neg) ∧ w'.cell? ⟨w.heap.size, 1, none⟩ = some (.slice A xs.length c) ∧ w'.cell? ⟨w.heap.size, 2, none⟩ = some (.int .i64 0)) 8 (by kernel_rfl) (by kernel_rfl) (fun _ _ d _ _ h => by cases d <;> exact h) ⟨p0, p1, p2⟩ ?_
    iterate 6 (refine lexP_yield (by rfl) (by rfl) (by intro w hSw; (try dsimp only at hSw); go_simp; (try rfl)) ?_; simp only [Act.put, List.setIfInBounds_toArray, List.set_cons_zero, List.set_cons_succ])
    refine lexP_step (by rfl) (by rfl) (fun K hK => ?_)
    go_simp
    go_at_call 64
    refine (natUp0_any _ xs _ (HS2.out.keep0 (Fr.refl [] w2).drew) HL.out).mono ?_
    rintro e w3 ⟨v', rfl, ho, hf⟩
    obtain ⟨A2, c2, rfl, hc2, _⟩ := ho.sl.open_
    have hbs := F2.out.size
    have HB : Hid (∀ k, Value.ownBlock (.slice A2 (limbs (val xs)).length c2) = some k → k ∉ [w.heap.size + 1]) := Lib.hid (by intro k hk; have h1 := (ho.lt hk).1; have h2 : w2.drew.heap.size = w2.heap.size := rfl; rw [h2] at h1; simp; omega)
    have HO : Hid (OwU w3 (w.heap.size + 1) (.slice A2 (limbs (val xs)).length c2) (limbs (val xs))) := Lib.hid (ho.base_le (by show _ ≤ w2.heap.size; omega))
    have F3 := Lib.hid (F2.out.drew.trans0 hf)
    clear ho hf p0 p1 p2 p3 p4 p5
    obtain ⟨p0, p1, p2, p3, p4, p5⟩ := (HNW'.out w3 F3.out).out
    refine hK.out _ _ (fun _ => ⟨p0, p1, p2⟩) ?_
    clear hK K
    try simp only [Act.put, List.setIfInBounds_toArray, List.set_cons_zero, List.set_cons_succ]
    refine lexP_yield (by rfl) (by rfl) (by intro w hSw; (try dsimp only at hSw); go_simp; (try rfl)) ?_
    simp only [Act.put, List.setIfInBounds_toArray, List.set_cons_zero, List.set_cons_succ]
    refine lexP_step (by rfl) (by rfl) (fun K hK => ?_)
    go_simp
    refine hK.out _ _ (fun h => absurd h (by decide)) ?_
    clear hK K
    try simp only [Act.put, List.setIfInBounds_toArray, List.set_cons_zero, List.set_cons_succ]
    refine lexP_step (by rfl) (by rfl) (fun K hK => ?_)
    go_simp
    refine hK.out _ _ (fun h => absurd h (by decide)) ?_
    clear hK K
    refine lexP_done ?_
    go_wp2
    have F4 : Fr [w.heap.size + 1] w3 _ := (((Fr.refl [w.heap.size + 1] w3).setCell (p := ⟨w.heap.size + 1, 0, none⟩) (by simp) (.bool neg)).setCell (p := ⟨w.heap.size + 1, 1, none⟩) (by simp) (.slice A2 (limbs (val xs)).length c2))
    exact bodyPost_ret (v := .tuple #[.agg #[.bool neg, .slice A2 (limbs (val xs)).length c2], .bool true]) (by simp [results, Tryd.results42, go_sem, p3, p4, p5]) rfl ⟨_, rfl, ⟨A2, _, c2, by rw [sgnN_neg H0.out], by rw [sgnN_natAbs]; exact HO.out.keep F4 HB.out⟩, (F0.out.trans0 F3.out).own1 F4 (by omega)⟩

def SmallPost (z : Int) (w : World) (e : Ending) (w' : World) : Prop := ∃ v, e = .returned v ∧ IntO w' (w.heap.size + 1) v z ∧ Fr [] w w'

set_option maxRecDepth 100000 in
set_option maxHeartbeats 8000000 in
theorem small_any (n : Int) (w : World) (hn : Ri n) : Calls Tryd.prog 21 #[.int .i64 n] w (SmallPost n w) := by
  have HNR := Lib.hid hn
  obtain ⟨g, hg⟩ : ∃ g, g = w.heap.size := ⟨_, rfl⟩
  have HLEN : Hid ((limbs n.natAbs).length ≤ 1) := Lib.hid (len1 (by obtain ⟨h1, h2⟩ := hn; rw [BW_eq]; omega))
  clear hn
  go_enter Tryd.func21, Tryd.ntmps21
  go_wp2_with fail
  refine (whole_any n _ HNR.out).mono ?_
  rintro e w1 ⟨v, rfl, hv, hf⟩
  have HV := Lib.hid hv
  have q0 := fun j => fresh_cell hf j
  have q1 := fresh_free hf
  have F1 : Hid (Fr [] w w1) := Lib.hid (((Fr.refl [] w).alloc _).trans0 hf)
  have HNEW : Hid (w1.heap[w.heap.size]? = some (.cells #[.bool false, .slice none 0 0] 44 (0, 0))) := Lib.hid ((hf.block w.heap.size (by simp) (by simp)).trans (heap_alloc_new w _))
  clear hv hf q0 q1
  go_wp2_with fail
  refine (tellInt_any v _ _ w1 HV.out (by have := HLEN.out; omega) (by rw [val_limbs]; have := HLEN.out; omega)).mono ?_
  rw [val_limbs, sgnN_self]
  rintro e w2 ⟨v2, rfl, hv, hf⟩
  obtain ⟨A, m, c, rfl, hs⟩ := hv
  have HS := Lib.hid hs
  have F2 : Hid (Fr [] w w2) := Lib.hid (F1.out.trans0 hf)
  have hbw1 : w.heap.size + 1 ≤ w1.heap.size := (Array.getElem?_eq_some_iff.1 HNEW.out).1
  have HNEW2 : Hid (w2.heap[w.heap.size]? = some (.cells #[.bool false, .slice none 0 0] 44 (0, 0))) := Lib.hid ((hf.block w.heap.size (Array.getElem?_eq_some_iff.1 HNEW.out).1 (by simp)).trans HNEW.out)
  have hlt := (Array.getElem?_eq_some_iff.1 HNEW2.out).1
  have c0 := cell_of_row w2 w.heap.size 0 _ _ _ HNEW2.out
  have c1 := cell_of_row w2 w.heap.size 1 _ _ _ HNEW2.out
  have fz : ∀ j, w2.frozen? ⟨w.heap.size, j, none⟩ = false := fun j => frozen_of_row w2 w.heap.size j _ _ HNEW2.out
  simp only [List.getElem?_toArray, List.getElem?_cons_zero, List.getElem?_cons_succ] at c0 c1
  clear hs hf HNEW hg
  go_wp2_with fail
  have F3 : Fr [w.heap.size] w2 _ := ((((Fr.refl [w.heap.size] w2).setCell (p := ⟨w.heap.size, 0, none⟩) (by simp) (.bool (decide (n < 0)))).setCell (p := ⟨w.heap.size, 1, none⟩) (by simp) (.slice A m c)).alloc (.cells #[.bool (decide (n < 0)), .slice A m c] 44))
  exact bodyPost_ret (v := .agg #[.bool (decide (n < 0)), .slice A m c]) (by simp [results, Tryd.results21, go_sem, c0, c1, fz, hlt, World.cell?_alloc_past]) rfl ⟨_, rfl, ⟨A, m, c, rfl, (HS.out.base_le (by omega)).keep F3 (by intro k hk; have := (HS.out.lt hk).1; simp; omega)⟩, F2.out.own1 F3 (Nat.le_refl _)⟩
end Go.Proofs.YtedoeadhbcjjgaaDoor

/- rosettekit.SameLimbs, SameInt; rosettelaw25.is. -/
namespace Go.Proofs.YtedoeadhbcjjgaaDoor
open Go.RowKit

theorem list_ext_takeN {xs ys : List Nat} (hl : xs.length = ys.length) (h : ∀ j, j < xs.length → xs.getD j 0 = ys.getD j 0) : xs = ys := by
  refine List.ext_getElem hl ?_
  intro i h1 h2
  have := h i h1
  simpa [List.getD, h1, h2] using this

set_option maxRecDepth 100000 in
set_option maxHeartbeats 4000000 in
theorem sameLimbs_any (va vb : Value) (xs ys : List Nat) (w : World) (ha : SlU w va xs) (hb : SlU w vb ys) (hl : xs.length ≤ 1000000) (hl2 : ys.length ≤ 1000000) :
    Calls Tryd.prog 66 #[va, vb] w fun e w' => e = .returned (.bool (decide (xs = ys))) ∧ ∃ n, w' = w.drewN n := by
  obtain ⟨A, ca, rfl, hca, hxa⟩ := ha.open_
  obtain ⟨B, cb, rfl, hcb, hxb⟩ := hb.open_
  by_cases hne : xs.length = ys.length
  · have e0 : ((xs.length : Int) != (ys.length : Int)) = false := by rw [hne]; simp
    rw [← hne] at hxb hcb ⊢
    have HXA := Lib.hid hxa
    have HXB := Lib.hid hxb
    have HNE := Lib.hid hne
    obtain ⟨n, hn⟩ : ∃ n, n = xs.length := ⟨_, rfl⟩
    rw [← hn] at hl HXA HXB hca hcb ⊢
    have HNN := Lib.hid hn
    have e1 : ((n : Int) != (n : Int)) = false := by simp
    clear ha hb hxa hxb hne e0 hn
    go_enter Tryd.func66, Tryd.ntmps66
    go_wp2
    go_loopw [5] (fun iv wr => ∃ k : Nat, k ≤ n ∧ iv = .int .i64 (k : Int) ∧ Hid (∀ j, j < k → xs.getD j 0 = ys.getD j 0) ∧ Hid (∃ q, wr = w.drewN q)) (fun iv _ => n - (intOf iv).toNat)
    case atStart => exact ⟨0, by omega, rfl, Lib.hid (by intro j hj; omega), Lib.hid ⟨0, rfl⟩⟩
    case round =>
      obtain ⟨k, hk, rfl, HE, HW⟩ := hrel
      obtain ⟨q, rfl⟩ := HW.out
      by_cases hkn : k = n
      · subst hkn
        have hfin : decide (xs = ys) = true := by simp; exact list_ext_takeN HNE.out (by rw [← HNN.out]; exact HE.out)
        have HF := Lib.hid hfin
        clear hfin
        go_wp2
        go_ret
        exact ⟨by rw [HF.out]; rfl, _, rfl⟩
      · obtain ⟨b, o, rfl, hx2⟩ := HXA.out (by omega)
        obtain ⟨b2, o2, rfl, hy2⟩ := HXB.out (by omega)
        have hcx : w.cell? ⟨b, o + k, none⟩ = some (.int .u64 ((xs.getD k 0 : Nat) : Int)) := hx2 k (by omega)
        have hcy : w.cell? ⟨b2, o2 + k, none⟩ = some (.int .u64 ((ys.getD k 0 : Nat) : Int)) := hy2 k (by omega)
        have hk2 : k < n := by omega
        clear hx2 hy2
        by_cases hxy : xs.getD k 0 = ys.getD k 0
        · have e2 : (((xs.getD k 0 : Nat) : Int) != ((ys.getD k 0 : Nat) : Int)) = false := by rw [hxy]; simp
          have HE2 : Hid (∀ j, j < k + 1 → xs.getD j 0 = ys.getD j 0) := Lib.hid (fun j hj => by rcases Nat.lt_or_ge j k with h | h; exact HE.out j h; rw [show j = k by omega]; exact hxy)
          generalize xs.getD k 0 = a at *
          generalize ys.getD k 0 = c at *
          clear hxy
          go_wp2_with fail
          go_quiet (fail)
          go_wp2_with fail
          go_roundw
          case rel => exact ⟨k + 1, by omega, by go_num, HE2, Lib.hid ⟨_, by first | rfl | (simp only [World.drewN_drewN]; rfl)⟩⟩
          case measure => simp [intOf]; omega
        · have e2 : (((xs.getD k 0 : Nat) : Int) != ((ys.getD k 0 : Nat) : Int)) = true := by rw [bne_iff_ne]; omega
          have hfin : decide (xs = ys) = false := by simp; rintro rfl; exact hxy rfl
          have HF := Lib.hid hfin
          generalize xs.getD k 0 = a at *
          generalize ys.getD k 0 = c at *
          clear hxy hfin
          go_wp2_with fail
          go_quiet (fail)
          go_wp2
          go_ret
          exact ⟨by rw [HF.out]; rfl, _, by first | rfl | (simp only [World.drewN_drewN]; rfl)⟩
  · have e0 : ((xs.length : Int) != (ys.length : Int)) = true := by rw [bne_iff_ne]; omega
    have hfin : decide (xs = ys) = false := by simp; rintro rfl; exact hne rfl
    have HF := Lib.hid hfin
    clear ha hb hxa hxb hne hfin
    go_enter Tryd.func66, Tryd.ntmps66
    go_wp2
    go_ret
    exact ⟨by rw [HF.out]; rfl, 0, rfl⟩


theorem limbs_eq_iff (x y : Int) : limbs x.natAbs = limbs y.natAbs ↔ x.natAbs = y.natAbs := ⟨limbs_inj, fun h => by rw [h]⟩

set_option maxRecDepth 100000 in
set_option maxHeartbeats 4000000 in
theorem sameInt_any (va vb : Value) (x y : Int) (w : World) (ha : IntV w va x) (hb : IntV w vb y) (hl : (limbs x.natAbs).length ≤ 1000000) (hl2 : (limbs y.natAbs).length ≤ 1000000) :
    Calls Tryd.prog 44 #[va, vb] w fun e w' => e = .returned (.bool (decide (x = y))) ∧ Fr [] w w' := by
  obtain ⟨A, n, c, rfl, hs⟩ := ha
  obtain ⟨B, m, d, rfl, ht⟩ := hb
  have FF : Hid (∀ (w0 : World), Fr [] w w0 → Fr [] w w0) := Lib.hid fun _ h => h
  have HS := Lib.hid (hs.keep0 (((Fr.refl [] w).alloc (.cells #[.bool (decide (x < 0)), .slice A n c] 44)).alloc (.cells #[.bool (decide (y < 0)), .slice B m d] 44)))
  have HT := Lib.hid (ht.keep0 (((Fr.refl [] w).alloc (.cells #[.bool (decide (x < 0)), .slice A n c] 44)).alloc (.cells #[.bool (decide (y < 0)), .slice B m d] 44)))
  have F2 : Hid (Fr [] w ((w.alloc (.cells #[.bool (decide (x < 0)), .slice A n c] 44)).alloc (.cells #[.bool (decide (y < 0)), .slice B m d] 44))) := Lib.hid (((Fr.refl [] w).alloc _).alloc _)
  have HL := Lib.hid (And.intro hl hl2)
  obtain ⟨sx, hsx⟩ : ∃ sx, sx = decide (x < 0) := ⟨_, rfl⟩
  obtain ⟨sy, hsy⟩ : ∃ sy, sy = decide (y < 0) := ⟨_, rfl⟩
  rw [← hsx, ← hsy] at HS HT F2
  rw [← hsx, ← hsy]
  have HSX := Lib.hid (And.intro hsx hsy)
  clear hs ht hl hl2 hsx hsy
  by_cases hsgn : sx = sy
  · subst hsgn
    have e0 : (sx == sx) = true := by simp
    have hfin : decide (limbs x.natAbs = limbs y.natAbs) = decide (x = y) := by
      have h1 := HSX.out.1
      have h2 := HSX.out.2
      rw [h1] at h2
      have h3 : (x < 0) ↔ (y < 0) := by simpa using h2
      rw [decide_eq_decide, limbs_eq_iff]
      omega
    have HFIN := Lib.hid hfin
    clear hfin
    go_enter Tryd.func44, Tryd.ntmps44
    go_wp2_with (go_at_call 66; refine (sameLimbs_any _ _ (limbs x.natAbs) (limbs y.natAbs) _ HS.out HT.out HL.out.1 HL.out.2).mono ?_; rintro e w' ⟨rfl, q, rfl⟩)
    go_ret
    exact ⟨by rw [← HFIN.out]; rfl, F2.out.drewN q⟩
  · have e0 : (sx == sy) = false := by simpa using hsgn
    have hfin : decide (x = y) = false := by
      have h1 := HSX.out.1
      have h2 := HSX.out.2
      simp only [decide_eq_false_iff_not]
      rintro rfl
      exact hsgn (h1.trans h2.symm)
    have HFIN := Lib.hid hfin
    clear hfin hsgn
    go_enter Tryd.func44, Tryd.ntmps44
    go_wp2_with fail
    go_ret
    exact ⟨by rw [HFIN.out]; rfl, F2.out⟩

set_option maxRecDepth 100000 in
set_option maxHeartbeats 4000000 in
theorem is_any (va vb : Value) (x y : Int) (e f : Int) (w : World) (ha : IntV w va x) (hb : IntV w vb y) (hl : (limbs x.natAbs).length ≤ 1000000) (hl2 : (limbs y.natAbs).length ≤ 1000000) :
    Calls Tryd.prog 22 #[va, .int .i64 e, vb, .int .i64 f] w fun en w' => en = .returned (.bool (decide (e = f) && decide (x = y))) ∧ Fr [] w w' := by
  have HA := Lib.hid ha
  have HB := Lib.hid hb
  obtain ⟨A, n, c, rfl, hs⟩ := ha
  obtain ⟨B, m, d, rfl, ht⟩ := hb
  obtain ⟨sx, hsx⟩ : ∃ sx, sx = decide (x < 0) := ⟨_, rfl⟩
  obtain ⟨sy, hsy⟩ : ∃ sy, sy = decide (y < 0) := ⟨_, rfl⟩
  have F2 : Hid (Fr [] w ((w.alloc (.cells #[.bool sx, .slice A n c] 44)).alloc (.cells #[.bool sy, .slice B m d] 44))) := Lib.hid (((Fr.refl [] w).alloc _).alloc _)
  have HL := Lib.hid (And.intro hl hl2)
  rw [← hsx] at HA
  rw [← hsy] at HB
  rw [← hsx, ← hsy]
  clear hs ht hl hl2 hsx hsy
  by_cases hef : e = f
  · subst hef
    have e0 : (e == e) = true := by simp
    go_enter Tryd.func22, Tryd.ntmps22
    go_wp2_with (go_at_call 44; refine (sameInt_any _ _ x y _ (HA.out.keep0 F2.out) (HB.out.keep0 F2.out) HL.out.1 HL.out.2).mono ?_; rintro e w' ⟨rfl, hf⟩; have HF := Lib.hid (F2.out.trans0 hf); clear hf)
    go_ret
    exact ⟨by simp, HF.out⟩
  · have e0 : (e == f) = false := by simpa using hef
    have hfin : decide (e = f) = false := by simp [hef]
    have HFIN := Lib.hid hfin
    clear hfin hef
    go_enter Tryd.func22, Tryd.ntmps22
    go_wp2_with fail
    go_ret
    exact ⟨by rw [HFIN.out]; rfl, F2.out⟩
end Go.Proofs.YtedoeadhbcjjgaaDoor
