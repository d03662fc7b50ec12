/- Joined by program (merge.py) out of 1 texts, a part of the proof: contracts of the functions that the statement reaches, and plain mathematics. No statement of the seat stands here. -/
import Derived.Test.YtedoeadhbcjjgaaDoorG22
/- For recur.Mod: laws, bounds. -/
namespace Go.Proofs.YtedoeadhbcjjgaaDoor
open Go.RowKit

def modZ (first rule : List Int) (n : Nat) (M : Int) : Int :=
  dotZ (powZ (ruleM rule M) M n (bitsOf n) (moduloZ [1] (ruleM rule M) M)) first (powZ (ruleM rule M) M n (bitsOf n) (moduloZ [1] (ruleM rule M) M)).length % M

theorem moduloZ_length (ps rule : List Int) (M : Int) : (moduloZ ps rule M).length = min rule.length ps.length := by
  unfold moduloZ; rw [List.length_take, redT_length]; omega
theorem moduloZ_B {rule : List Int} {M : Int} (hM : 0 < M) {B : Nat} (hB : (limbs M.natAbs).length ≤ B) {ps : List Int} (h : AllB B ps) : AllB B (moduloZ ps rule M) := (redT_B hM hB h _).take _
theorem productZ_length (ps qs rule : List Int) (M : Int) : (productZ ps qs rule M).length = min rule.length (ps.length + qs.length) := by
  unfold productZ; rw [moduloZ_length, modAll_length, prodI_length, List.length_replicate]
theorem productZ_B {rule : List Int} {M : Int} (hM : 0 < M) {B : Nat} (hB : (limbs M.natAbs).length ≤ B) (ps qs : List Int) : AllB B (productZ ps qs rule M) := by
  unfold productZ
  refine moduloZ_B hM hB ?_
  have h := modAll_B hM hB (prodI ps qs (List.replicate (ps.length + qs.length) 0) ps.length)
  rwa [prodI_length, List.length_replicate] at h
theorem AllB.cons {B : Nat} {zs : List Int} (h : AllB B zs) {z : Int} (hz : (limbs z.natAbs).length ≤ B) : AllB B (z :: zs) := by
  intro i
  match i with
  | 0 => exact hz
  | i + 1 => exact h i
theorem AllB.of_right {zs : List Int} (h : AllRight zs) : AllB 4096 zs := by
  intro i
  by_cases hi : i < zs.length
  · exact h i hi
  · rw [show zs.getD i 0 = 0 by simp only [List.getD]; rw [List.getElem?_eq_none (by omega)]; rfl]; simp [limbs_zero]
theorem dotZ_B {ps row : List Int} (h1 : AllB 16 ps) (h2 : AllB 4096 row) : ∀ i, (limbs (dotZ ps row i).natAbs).length ≤ 4113 * i
  | 0 => by simp [dotZ, limbs_zero]
  | i + 1 => by
    have ih := dotZ_B h1 h2 i
    have ha := h1 i
    have hb := h2 i
    have hm := limbs_mul_len (ps.getD i 0).natAbs (row.getD i 0).natAbs
    have hs := limbs_add_len (dotZ ps row i).natAbs ((ps.getD i 0).natAbs * (row.getD i 0).natAbs)
    have hl := limbs_length_mono (Int.natAbs_add_le (dotZ ps row i) (ps.getD i 0 * row.getD i 0))
    rw [Int.natAbs_mul] at hl
    simp only [dotZ]
    omega

theorem BigRow.append {w : World} {gs hs : List Nat} {zs ys : List Int} (h : BigRow w gs zs) (k : BigRow w hs ys) : BigRow w (gs ++ hs) (zs ++ ys) := by
  refine ⟨by simp [h.1, k.1], fun i hi => ?_⟩
  by_cases hlt : i < gs.length
  · rw [show (gs ++ hs).getD i 0 = gs.getD i 0 by simp only [List.getD]; rw [List.getElem?_append_left hlt], show (zs ++ ys).getD i 0 = zs.getD i 0 by simp only [List.getD]; rw [List.getElem?_append_left (by rw [← h.1]; exact hlt)]]
    exact h.2 i hlt
  · rw [show (gs ++ hs).getD i 0 = hs.getD (i - gs.length) 0 by simp only [List.getD]; rw [List.getElem?_append_right (by omega)], show (zs ++ ys).getD i 0 = ys.getD (i - gs.length) 0 by simp only [List.getD]; rw [List.getElem?_append_right (by rw [← h.1]; omega), h.1]]
    exact k.2 _ (by simp at hi; omega)
/-- A slice of two numbers, written out. -/
theorem SlZ_two {w : World} {g : Nat} {s1 s2 : Bool} {A1 A2 : Option Addr} {n1 c1 n2 c2 : Nat} {T : TypeId} {z1 z2 : Int} (h : w.heap[g]? = some (.cells #[.bool s1, .slice A1 n1 c1, .bool s2, .slice A2 n2 c2] T (0, 0)))
    (h1 : IntV w (.agg #[.bool s1, .slice A1 n1 c1]) z1) (h2 : IntV w (.agg #[.bool s2, .slice A2 n2 c2]) z2) : SlZ w (.slice (some ⟨g, 0, none⟩) 2 2) [z1, z2] := by
  refine ⟨some ⟨g, 0, none⟩, 2, rfl, Nat.le_refl _, fun _ => ⟨g, 0, rfl, fun i hi => ?_⟩⟩
  have hc := fun j => cell_of_row w g j _ _ _ h
  obtain ⟨B1, m1, d1, e1, t1⟩ := h1
  obtain ⟨B2, m2, d2, e2, t2⟩ := h2
  simp only [Value.agg.injEq, Array.mk.injEq, List.cons.injEq, Value.bool.injEq, and_true] at e1 e2
  match i, hi with
  | 0, _ => exact ⟨A1, n1, c1, by rw [hc]; simp [e1.1], by rw [hc]; rfl, by rw [e1.2]; exact t1⟩
  | 1, _ => exact ⟨A2, n2, c2, by rw [hc]; simp [e2.1], by rw [hc]; rfl, by rw [e2.2]; exact t2⟩

/-- A slice of one pointer, written out. -/
theorem OwP_one {w : World} {base g p : Nat} {T : TypeId} (hT : T = 35) (h : w.heap[g]? = some (.cells #[.pointer (some ⟨p, 0, none⟩)] T (0, 0))) (hb : base ≤ g) : OwP w base (.slice (some ⟨g, 0, none⟩) 1 1) [p] := by
  subst hT
  exact ⟨rfl, .inr ⟨g, 1, _, rfl, hb, h, Nat.le_refl _, by unfold maxLen; omega, rfl, rfl⟩⟩

section
variable {w : World} {ops : Array Oper} {rest : List Oper} {o : Oper} {a : Act} {Q : Exit → Act → World → Prop}
theorem run_append_emptyP (base : Nat) (v : Value) (gs : List Nat) (hown : OwP w base v gs) (A : Option Addr) (c : Nat) (ty : TypeId) :
    (Builtin.append_ #[61, 61] ty #[v, .slice A 0 c]).run Tryd.prog w = .ok v w := by
  obtain ⟨i0, hi, hz0, hz1, hz2⟩ := info_parts infoP
  rcases hown.2 with ⟨rfl, _⟩ | ⟨g, cap, cur, rfl, _, _, hnc, _⟩
  · simp [Builtin.append_, run_underlying Tryd.underlying61, sizeOf, typeInfo, hi, Builtin.lenOf, Builtin.firstCells]
    cases A <;> simp [loadCells, loadCellsFrom]
  · simp [Builtin.append_, run_underlying Tryd.underlying61, sizeOf, typeInfo, hi, Builtin.lenOf, Builtin.firstCells, hnc]
    cases A <;> simp [loadCells, loadCellsFrom, storeCells]
/-- 'append(v, src...)'. -/
theorem wp_appendPS (hg : o.guard = none) (s x : Operand) (hop : o.op = Op.call { callee := Callee.builtin Builtin.append, args := #[s, x], argTypes := #[61, 61] })
    (base base2 : Nat) (v sv : Value) (gs hs : List Nat) (hs1 : a.eval s = v) (hown : OwP w base v gs) (hx : a.eval x = sv) (hsl : OwP w base2 sv hs) (hn : gs.length + hs.length ≤ 10000000) (hb : base ≤ w.heap.size)
    (hK : ∀ v' w', OwP w' base v' (gs ++ hs) → Fr v.ownBlock.toList w w' → wpList Tryd.prog ops Q rest (a.put o.dst v') w') :
    wpList Tryd.prog ops Q (o :: rest) a w := by
  obtain ⟨A, c, rfl, hc, hx'⟩ := hsl.open_
  rcases Nat.eq_zero_or_pos hs.length with h0 | h0
  · have hnil : hs = [] := List.eq_nil_of_length_eq_zero h0
    subst hnil
    refine wpList_plain hg fun K hK' => ?_
    have hrun := run_append_emptyP base v gs hown A c o.type
    unfold Oper.wp
    simp only [List.length_nil] at hx
    simp [execOp, hop, resolve, invoke, builtin, hs1, hx, hrun, Result.andThen]
    exact hK' _ _ (hK v w (by simpa using hown) (Fr.refl _ _))
  · obtain ⟨b, rfl, hcell⟩ := hx' h0
    obtain ⟨i0, hi, hz0, hz1, hz2⟩ := info_parts infoP
    refine wpList_append_own_at w hg s x 61 hop base 35 i0 (.pointer none) 1 8 Tryd.underlying61 hi hz0 hz1 hz2 rfl (by decide) v gs.length (ptrs gs) hs1 hown ⟨b, 0, none⟩ hs.length c (ptrs hs) hx (by simp [ptrs]) ?_ ?_ (by unfold maxLen; omega) (by omega) hb ?_
    · intro j u hu
      have hj : j < hs.length := by
        have := (List.getElem?_eq_some_iff.1 hu).1
        simpa [ptrs] using this
      rw [Addr.add_lit, Nat.zero_add, hcell j hj, ← ptrs_at hj, hu]
    · intro u hu
      simp [ptrs] at hu
      obtain ⟨_, _, rfl⟩ := hu; rfl
    · intro v' w1 hown' hgrow _ _
      rw [← ptrs_append] at hown'
      exact hK v' w1 (by unfold OwP; simpa using hown') (Fr.of_grown hgrow)
end
end Go.Proofs.YtedoeadhbcjjgaaDoor
