/- Joined by program (merge.py) out of 1 texts, a part of the proof: contracts of the functions that the statement reaches, and plain mathematics. No statement of the seat stands here. -/
import Derived.Test.YtedoeadhbcjjgaaDoorG01
/- Plain mathematics: a polynomial modulo a rule's. No program. -/
namespace Go.Proofs.YtedoeadhbcjjgaaDoor

/-- One top number taken off, i of the rule's numbers done. -/
def redI (rule : List Int) (M : Int) (top : Nat) (ps : List Int) : Nat → List Int
  | 0 => ps
  | i + 1 => (redI rule M top ps i).set (top - 1 - i) (((redI rule M top ps i).getD (top - 1 - i) 0 + (redI rule M top ps i).getD top 0 * rule.getD i 0) % M)
/-- j top numbers taken off. -/
def redT (rule : List Int) (M : Int) (ps : List Int) : Nat → List Int
  | 0 => ps
  | j + 1 => redI rule M (ps.length - 1 - j) (redT rule M ps j) rule.length
def moduloZ (ps rule : List Int) (M : Int) : List Int := (redT rule M ps (ps.length - rule.length)).take (min rule.length ps.length)

theorem redI_length (rule : List Int) (M : Int) (top : Nat) (ps : List Int) : ∀ i, (redI rule M top ps i).length = ps.length
  | 0 => rfl
  | i + 1 => by simp [redI, redI_length rule M top ps i]
theorem redT_length (rule : List Int) (M : Int) (ps : List Int) : ∀ j, (redT rule M ps j).length = ps.length
  | 0 => rfl
  | j + 1 => by rw [redT, redI_length, redT_length rule M ps j]

/-- All numbers have at most B limbs. -/
def AllB (B : Nat) (zs : List Int) : Prop := ∀ i, (limbs (zs.getD i 0).natAbs).length ≤ B
theorem AllB.set {B : Nat} {zs : List Int} (h : AllB B zs) (k : Nat) {z : Int} (hz : (limbs z.natAbs).length ≤ B) : AllB B (zs.set k z) := by
  intro i
  by_cases hik : k = i
  · subst hik
    by_cases hl : k < zs.length
    · rw [show (zs.set k z).getD k 0 = z by simp [List.getD, hl]]; exact hz
    · rw [show (zs.set k z).getD k 0 = 0 by simp [List.getD, hl]]; simp [limbs_zero]
  · rw [show (zs.set k z).getD i 0 = zs.getD i 0 by simp [List.getD, List.getElem?_set, hik]]; exact h i
theorem limbs_mod_len {M : Int} (hM : 0 < M) {B : Nat} (hB : (limbs M.natAbs).length ≤ B) (z : Int) : (limbs (z % M).natAbs).length ≤ B := by
  refine Nat.le_trans (limbs_length_mono ?_) hB
  have h1 := Int.emod_nonneg z (show M ≠ 0 by omega)
  have h2 := Int.emod_lt_of_pos z hM
  omega
theorem redI_B {rule : List Int} {M : Int} (hM : 0 < M) {B : Nat} (hB : (limbs M.natAbs).length ≤ B) {ps : List Int} (h : AllB B ps) (top : Nat) : ∀ i, AllB B (redI rule M top ps i)
  | 0 => h
  | i + 1 => (redI_B hM hB h top i).set _ (limbs_mod_len hM hB _)
theorem redT_B {rule : List Int} {M : Int} (hM : 0 < M) {B : Nat} (hB : (limbs M.natAbs).length ≤ B) {ps : List Int} (h : AllB B ps) : ∀ j, AllB B (redT rule M ps j)
  | 0 => h
  | j + 1 => redI_B hM hB (redT_B hM hB h j) _ _
theorem AllB.take {B : Nat} {zs : List Int} (h : AllB B zs) (k : Nat) : AllB B (zs.take k) := by
  intro i
  by_cases hi : i < k
  · rw [show (zs.take k).getD i 0 = zs.getD i 0 by simp only [List.getD, List.getElem?_take, if_pos hi]]; exact h i
  · rw [show (zs.take k).getD i 0 = 0 by simp only [List.getD, List.getElem?_take, if_neg hi]; rfl]; simp [limbs_zero]

/-- The product of two polynomials: row by row. -/
def prodK (ps qs : List Int) (i : Nat) (out : List Int) : Nat → List Int
  | 0 => out
  | k + 1 => (prodK ps qs i out k).set (i + k) ((prodK ps qs i out k).getD (i + k) 0 + ps.getD i 0 * qs.getD k 0)
def prodI (ps qs : List Int) (out : List Int) : Nat → List Int
  | 0 => out
  | i + 1 => prodK ps qs i (prodI ps qs out i) qs.length
def modAll (M : Int) (out : List Int) : Nat → List Int
  | 0 => out
  | k + 1 => (modAll M out k).set k ((modAll M out k).getD k 0 % M)
def productZ (ps qs rule : List Int) (M : Int) : List Int :=
  moduloZ (modAll M (prodI ps qs (List.replicate (ps.length + qs.length) 0) ps.length) (ps.length + qs.length)) rule M

theorem prodK_length (ps qs : List Int) (i : Nat) (out : List Int) : ∀ k, (prodK ps qs i out k).length = out.length
  | 0 => rfl
  | k + 1 => by simp [prodK, prodK_length ps qs i out k]
theorem prodI_length (ps qs : List Int) (out : List Int) : ∀ i, (prodI ps qs out i).length = out.length
  | 0 => rfl
  | i + 1 => by rw [prodI, prodK_length, prodI_length ps qs out i]
theorem modAll_length (M : Int) (out : List Int) : ∀ k, (modAll M out k).length = out.length
  | 0 => rfl
  | k + 1 => by simp [modAll, modAll_length M out k]

/-- The power's steps, the highest bit first: k bits are left. -/
def powZ (rule : List Int) (M : Int) (n : Nat) : Nat → List Int → List Int
  | 0, p => p
  | k + 1, p => powZ rule M n k (if n / 2 ^ k % 2 = 1 then moduloZ (0 :: productZ p p rule M) rule M else productZ p p rule M)
def dotZ (ps row : List Int) : Nat → Int
  | 0 => 0
  | i + 1 => dotZ ps row i + ps.getD i 0 * row.getD i 0
def ruleM (rule : List Int) (M : Int) : List Int := modAll M rule rule.length
end Go.Proofs.YtedoeadhbcjjgaaDoor
