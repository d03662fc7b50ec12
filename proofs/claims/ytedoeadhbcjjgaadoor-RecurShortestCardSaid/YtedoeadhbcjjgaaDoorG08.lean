/- Joined by program (merge.py) out of 2 texts, a part of the proof: contracts of the functions that the statement reaches, and plain mathematics. No statement of the seat stands here. -/
import Derived.Test.YtedoeadhbcjjgaaDoorG06
import Derived.Test.YtedoeadhbcjjgaaDoorG07
import Derived.Test.YtedoeadhbcjjgaaDoorG01
/- Laws for the walk: append from a slice that is read, nil or empty or not. -/
namespace Go.Proofs.YtedoeadhbcjjgaaDoor
open Go.RowKit

section
variable {w : World} {ops : Array Oper} {rest : List Oper} {o : Oper} {a : Act} {Q : Exit → Act → World → Prop}

theorem run_append_empty (base : Nat) (v : Value) (xs : List Nat) (hown : OwU w base v xs) (A : Option Addr) (c : Nat) (ty : TypeId) :
    (Builtin.append_ #[36, 36] ty #[v, .slice A 0 c]).run Tryd.prog w = .ok v w := by
  obtain ⟨i0, hi, hz0, hz1, hz2⟩ := info_parts infoU
  rcases hown.2.2 with ⟨rfl, _⟩ | ⟨g, cap, cur, rfl, _, _, hnc, _⟩
  · simp [Builtin.append_, run_underlying Tryd.underlying36, sizeOf, typeInfo, hi, Builtin.lenOf, Builtin.firstCells]
    cases A <;> simp [loadCells, loadCellsFrom]
  · simp [Builtin.append_, run_underlying Tryd.underlying36, sizeOf, typeInfo, hi, Builtin.lenOf, Builtin.firstCells, hnc]
    cases A <;> simp [loadCells, loadCellsFrom, storeCells]

/-- 'append(v, src...)'. -/
theorem wp_appendS (hg : o.guard = none) (s x : Operand) (hop : o.op = Op.call { callee := Callee.builtin Builtin.append, args := #[s, x], argTypes := #[36, 36] })
    (base : Nat) (v : Value) (xs : List Nat) (hs : a.eval s = v) (hown : OwU w base v xs) (sv : Value) (news : List Nat) (hx : a.eval x = sv) (hsl : SlU w sv news) (hn : xs.length + news.length ≤ 10000000000000) (hb : base ≤ w.heap.size)
    (hK : ∀ v' w', OwU w' base v' (xs ++ news) → Fr v.ownBlock.toList w w' → (∀ k, v'.ownBlock = some k → base ≤ k) → (v' = .slice none 0 0 ↔ v = .slice none 0 0 ∧ news.length = 0) → wpList Tryd.prog ops Q rest (a.put o.dst v') w') :
    wpList Tryd.prog ops Q (o :: rest) a w := by
  obtain ⟨A, c, rfl, hc, hx'⟩ := hsl.open_
  rcases Nat.eq_zero_or_pos news.length with h0 | h0
  · have hnil : news = [] := List.eq_nil_of_length_eq_zero h0
    subst hnil
    refine wpList_plain hg fun K hK' => ?_
    have hrun := run_append_empty base v xs hown A c o.type
    unfold Oper.wp
    simp only [List.length_nil] at hx
    simp [execOp, hop, resolve, invoke, builtin, hs, hx, hrun, Result.andThen]
    exact hK' _ _ (hK v w (by simpa using hown) (Fr.refl _ _) (fun k hk => (hown.lt hk).1) (by simp))
  · obtain ⟨b, off, rfl, hcell⟩ := hx' h0
    exact wp_appendU hg s x hop base v xs hs hown b off c news hx hcell hsl.bd hn hb hK
end

end Go.Proofs.YtedoeadhbcjjgaaDoor

/- big.over: of a number by a greater one, by one limb. -/
namespace Go.Proofs.YtedoeadhbcjjgaaDoor
open Go.RowKit

def OverPost (a b : Nat) (w : World) (e : Ending) (w' : World) : Prop := ∃ q r, e = .returned (.tuple #[q, r]) ∧ OwU w' w.heap.size q (limbs (a / b)) ∧ OwU w' w.heap.size r (limbs (a % b)) ∧ Fr [] w w'

theorem OwU_empty (w : World) (base : Nat) (hb : base ≤ w.heap.size) : OwU (w.alloc (.cells #[] 58)) base (.slice (some ⟨w.heap.size, 0, none⟩) 0 0) [] :=
  ⟨Bd.nil, by simp [u64s], .inr ⟨w.heap.size, 0, #[], rfl, hb, heap_alloc_new w _, by simp, by unfold maxLen; omega, rfl, rfl⟩⟩
theorem OwU_one (w : World) (base x : Nat) (hb : base ≤ w.heap.size) (hx : x < BW) : OwU (w.alloc (.cells #[.int .u64 (x : Int)] 58)) base (.slice (some ⟨w.heap.size, 0, none⟩) 1 1) [x] :=
  ⟨Bd.cons hx Bd.nil, by simp [u64s], .inr ⟨w.heap.size, 1, _, rfl, hb, heap_alloc_new w _, by simp, by unfold maxLen; omega, rfl, rfl⟩⟩

set_option maxRecDepth 100000 in
set_option maxHeartbeats 8000000 in
theorem over_lt (va vb : Value) (a b : Nat) (w : World) (ha : SlU w va (limbs a)) (hb : SlU w vb (limbs b)) (hla : (limbs a).length ≤ 1000000000) (hlb : (limbs b).length ≤ 1000000000) (hlt : a < b) :
    Calls Tryd.prog 50 #[va, vb] w (OverPost a b w) := by
  have HC := Lib.hid ((compare_any va vb a b w ha hb (by omega) (by omega)).mono (R' := fun e w' => e = .returned (.int .i64 (-1)) ∧ ∃ n, w' = w.drewN n) (fun e w' h => ⟨by rw [← cmpI_lt hlt]; exact h.1, h.2⟩))
  have HSA := Lib.hid ha
  have HLA := Lib.hid hla
  clear ha hb hla hlb
  go_enter Tryd.func50, Tryd.ntmps50
  go_wp2_with (first
    | (go_at_call 53; refine HC.out.mono ?_; rintro e w1 ⟨rfl, nd, rfl⟩)
    | (at_builtin; refine wp_appendS rfl _ _ rfl w.heap.size (.slice (some ⟨w.heap.size, 0, none⟩) 0 0) [] rfl (OwU_empty (w.drewN nd) w.heap.size (by simp)) va (limbs a) rfl (HSA.out.keep0 (((Fr.refl [] w).drewN nd).alloc _)) (by have := HLA.out; simp; omega) (by simp) ?_; intro v' w2 ho hfr _ _; have HO := Lib.hid ho; have HF := Lib.hid hfr; clear ho hfr))
  go_ret2
  refine ⟨.slice none 0 0, v', rfl, by rw [Nat.div_eq_of_lt hlt, limbs_zero]; exact OwU_nil _ _, by rw [Nat.mod_eq_of_lt hlt]; exact HO.out, ?_⟩
  exact (((Fr.refl [] w).drewN nd).alloc _).trans HF.out (by intro x hx hlt; simp [Value.ownBlock] at hx; subst hx; simp at hlt)

set_option maxRecDepth 100000 in
set_option maxHeartbeats 8000000 in
theorem over_one (va vb : Value) (a b : Nat) (w : World) (ha : SlU w va (limbs a)) (hb : SlU w vb (limbs b)) (hla : (limbs a).length ≤ 1000000000) (hb0 : 0 < b) (hbb : b < BW) (hle : b ≤ a) :
    Calls Tryd.prog 50 #[va, vb] w (OverPost a b w) := by
  have hl1 : (limbs b).length = 1 := by rw [limbs_small (by omega) hbb]; rfl
  have HC := Lib.hid ((compare_any va vb a b w ha hb (by omega) (by omega)).mono (R' := fun e w' => (∃ c : Int, 0 ≤ c ∧ e = .returned (.int .i64 c)) ∧ ∃ n, w' = w.drewN n) (fun e w' h => ⟨⟨cmpI a b, by unfold cmpI; rw [if_neg (by omega)]; split <;> omega, h.1⟩, h.2⟩))
  have HSA := Lib.hid ha
  obtain ⟨B, cb, rfl, _⟩ := hb.open_
  rw [hl1] at hb HC ⊢
  obtain ⟨bb, ob, rfl, h1⟩ := hb.get (k := 0) (by omega)
  have e1 : (limbs b).getD 0 0 = b := by rw [limbs_small (by omega) hbb]; rfl
  rw [e1, Nat.add_zero] at h1
  have HLA := Lib.hid hla
  clear ha hb hla e1 hl1
  go_enter Tryd.func50, Tryd.ntmps50
  go_wp2_with (first
    | (go_at_call 53; refine HC.out.mono ?_; rintro e w1 ⟨⟨c, hc, rfl⟩, nd, rfl⟩)
    | (go_at_call 71; refine (short_any va a b _ (HSA.out.keep0 ((Fr.refl [] w).drewN nd)) (by have := HLA.out; omega) hb0 hbb).mono ?_; rintro e w2 ⟨vq, rfl, ho, hf⟩; have HO := Lib.hid ho; have HF := Lib.hid hf; clear ho hf)
    | (go_at_call 70; refine (trim_ow w.heap.size _ [a % b] _ (OwU_one w2 w.heap.size (a % b) (by have := HF.out.size; simpa using this) (Nat.lt_trans (Nat.mod_lt _ hb0) hbb)) (by simp)).mono ?_; rintro e w3 ⟨vr, rfl, ho3, _, rfl⟩; have HO3 := Lib.hid ho3; clear ho3))
  go_ret2
  have F : Fr [] w w2 := ((Fr.refl [] w).drewN nd).trans0 HF.out
  refine ⟨vq, vr, rfl, (HO.out.alloc _), ?_, F.alloc _⟩
  have h3 := HO3.out
  rw [trimL_of_val (Bd.cons (Nat.lt_trans (Nat.mod_lt _ hb0) hbb) Bd.nil) (val_single _)] at h3
  exact h3
end Go.Proofs.YtedoeadhbcjjgaaDoor
