/- Joined by program (merge.py) out of 15 texts, a part of the proof: contracts of the functions that the statement reaches, and plain mathematics. No statement of the seat stands here. -/
import Init
/- Plain mathematics: natural numbers as lists of limbs of 64 bits, the lowest first. No program. -/
namespace Go.Proofs.YtedoeadhbcjjgaaDoor

/-- 2^64. -/
def BW : Nat := 18446744073709551616
theorem BW_eq : BW = 18446744073709551616 := rfl
theorem BW_pos : 0 < BW := by rw [BW_eq]; omega
theorem BW_two : 2 ≤ BW := by rw [BW_eq]; omega
theorem BW_pow : BW = 2 ^ 64 := rfl
theorem BWk_pos (k : Nat) : 0 < BW ^ k := Nat.pow_pos BW_pos

/-- The number of a list of limbs. -/
def val : List Nat → Nat
  | [] => 0
  | x :: xs => x + BW * val xs

/-- All limbs are limbs. -/
def Bd (xs : List Nat) : Prop := ∀ x ∈ xs, x < BW

theorem Bd.nil : Bd [] := by simp [Bd]
theorem Bd.cons {x : Nat} {xs : List Nat} (hx : x < BW) (h : Bd xs) : Bd (x :: xs) := by
  intro y hy; rcases List.mem_cons.1 hy with rfl | hy
  · exact hx
  · exact h y hy
theorem Bd.head {x : Nat} {xs : List Nat} (h : Bd (x :: xs)) : x < BW := h x (by simp)
theorem Bd.tail {x : Nat} {xs : List Nat} (h : Bd (x :: xs)) : Bd xs := fun y hy => h y (by simp [hy])
theorem Bd.append {xs ys : List Nat} (h : Bd xs) (h' : Bd ys) : Bd (xs ++ ys) := by
  intro y hy; rcases List.mem_append.1 hy with hy | hy
  · exact h y hy
  · exact h' y hy
theorem Bd.left {xs ys : List Nat} (h : Bd (xs ++ ys)) : Bd xs := fun y hy => h y (by simp [hy])
theorem Bd.right {xs ys : List Nat} (h : Bd (xs ++ ys)) : Bd ys := fun y hy => h y (by simp [hy])
theorem Bd.take {xs : List Nat} (h : Bd xs) (k : Nat) : Bd (xs.take k) := fun y hy => h y (List.mem_of_mem_take hy)
theorem Bd.drop {xs : List Nat} (h : Bd xs) (k : Nat) : Bd (xs.drop k) := fun y hy => h y (List.mem_of_mem_drop hy)
theorem Bd.getD {xs : List Nat} (h : Bd xs) (i : Nat) : xs.getD i 0 < BW := by
  by_cases hi : i < xs.length
  · have : xs.getD i 0 = xs[i] := by simp [List.getD, hi]
    rw [this]; exact h _ (List.getElem_mem hi)
  · have : xs.getD i 0 = 0 := by simp [List.getD, Nat.le_of_not_lt hi]
    rw [this]; exact BW_pos
theorem Bd.replicate (n : Nat) : Bd (List.replicate n 0) := by
  intro y hy; rw [(List.mem_replicate.1 hy).2]; exact BW_pos
theorem Bd.set {xs : List Nat} (h : Bd xs) (i x : Nat) (hx : x < BW) : Bd (xs.set i x) := by
  intro y hy
  rcases List.mem_or_eq_of_mem_set hy with hy | rfl
  · exact h y hy
  · exact hx

theorem val_nil : val [] = 0 := rfl
theorem val_cons (x : Nat) (xs : List Nat) : val (x :: xs) = x + BW * val xs := rfl
theorem val_append (xs ys : List Nat) : val (xs ++ ys) = val xs + BW ^ xs.length * val ys := by
  induction xs with
  | nil => simp [val]
  | cons x xs ih => simp only [List.cons_append, val_cons, ih, List.length_cons, Nat.pow_succ, Nat.mul_add, Nat.add_assoc]; congr 1; congr 1; rw [← Nat.mul_assoc, Nat.mul_comm BW]
theorem val_single (x : Nat) : val [x] = x := by simp [val]
theorem val_replicate (n : Nat) : val (List.replicate n 0) = 0 := by
  induction n with
  | zero => rfl
  | succ n ih => simp [List.replicate_succ, val, ih]
theorem val_lt {xs : List Nat} (h : Bd xs) : val xs < BW ^ xs.length := by
  induction xs with
  | nil => simp [val]
  | cons x xs ih =>
    have h1 := ih h.tail
    have h2 := h.head
    simp only [val_cons, List.length_cons, Nat.pow_succ]
    have h3 : BW * val xs + BW ≤ BW ^ xs.length * BW := by
      have : BW * (val xs + 1) ≤ BW * BW ^ xs.length := Nat.mul_le_mul_left _ h1
      rw [Nat.mul_comm (BW ^ xs.length)]; simpa [Nat.mul_add] using this
    omega
theorem getD_eq {xs : List Nat} {i : Nat} (hi : i < xs.length) : xs.getD i 0 = xs[i] := by simp [List.getD, hi]
theorem getD_ge {xs : List Nat} {i : Nat} (hi : xs.length ≤ i) : xs.getD i 0 = 0 := by simp [List.getD, hi]
theorem take_succ_getD {xs : List Nat} {i : Nat} (hi : i < xs.length) : xs.take (i + 1) = xs.take i ++ [xs.getD i 0] := by
  rw [getD_eq hi, List.take_succ_eq_append_getElem hi]
/-- One limb more of a number: also behind its end. -/
theorem val_take_succ (xs : List Nat) (i : Nat) : val (xs.take (i + 1)) = val (xs.take i) + BW ^ i * xs.getD i 0 := by
  by_cases hi : i < xs.length
  · rw [take_succ_getD hi, val_append, val_single]
    simp [List.length_take, Nat.min_eq_left (Nat.le_of_lt hi)]
  · rw [getD_ge (by omega), List.take_of_length_le (by omega), List.take_of_length_le (by omega)]; simp
theorem val_take_of_le {xs : List Nat} {n : Nat} (h : xs.length ≤ n) : val (xs.take n) = val xs := by rw [List.take_of_length_le h]

/-- The limbs of a number, the highest one not 0. -/
def limbs (n : Nat) : List Nat := if h : n = 0 then [] else n % BW :: limbs (n / BW)
termination_by n
decreasing_by exact Nat.div_lt_self (Nat.pos_of_ne_zero h) BW_two

theorem limbs_zero : limbs 0 = [] := by rw [limbs]; simp
theorem limbs_pos {n : Nat} (h : n ≠ 0) : limbs n = n % BW :: limbs (n / BW) := by rw [limbs]; simp [h]
theorem limbs_small {n : Nat} (h : n ≠ 0) (hb : n < BW) : limbs n = [n] := by
  rw [limbs_pos h, Nat.mod_eq_of_lt hb, Nat.div_eq_of_lt hb, limbs_zero]
theorem limbs_ne {n : Nat} (h : n ≠ 0) : limbs n ≠ [] := by rw [limbs_pos h]; simp
theorem limbs_eq_nil {n : Nat} : limbs n = [] ↔ n = 0 := ⟨fun h => by by_cases h0 : n = 0; exact h0; exact absurd h (limbs_ne h0), fun h => by rw [h, limbs_zero]⟩
theorem val_limbs (n : Nat) : val (limbs n) = n := by
  induction n using Nat.strongRecOn with
  | _ n ih =>
    by_cases h : n = 0
    · subst h; rw [limbs_zero]; rfl
    · rw [limbs_pos h, val_cons, ih (n / BW) (Nat.div_lt_self (Nat.pos_of_ne_zero h) BW_two)]
      exact Nat.mod_add_div n BW
theorem Bd_limbs (n : Nat) : Bd (limbs n) := by
  induction n using Nat.strongRecOn with
  | _ n ih =>
    by_cases h : n = 0
    · subst h; rw [limbs_zero]; exact Bd.nil
    · rw [limbs_pos h]; exact Bd.cons (Nat.mod_lt _ BW_pos) (ih _ (Nat.div_lt_self (Nat.pos_of_ne_zero h) BW_two))
theorem limbs_inj {a b : Nat} (h : limbs a = limbs b) : a = b := by rw [← val_limbs a, h, val_limbs]

/-- Noughts taken off the end. -/
def trimL : List Nat → List Nat
  | [] => []
  | x :: xs => if x = 0 ∧ trimL xs = [] then [] else x :: trimL xs

theorem val_trimL (xs : List Nat) : val (trimL xs) = val xs := by
  induction xs with
  | nil => rfl
  | cons x xs ih =>
    rw [trimL]
    split
    · rename_i h; rw [h.2] at ih; simp [val, ← ih, h.1]
    · simp [val, ih]
theorem trimL_cons (x : Nat) (xs : List Nat) : trimL (x :: xs) = if x = 0 ∧ trimL xs = [] then [] else x :: trimL xs := rfl
theorem limbs_val {xs : List Nat} (h : Bd xs) : limbs (val xs) = trimL xs := by
  induction xs with
  | nil => exact limbs_zero
  | cons x xs ih =>
    have ih := ih h.tail
    rw [trimL_cons]
    by_cases h0 : x = 0 ∧ trimL xs = []
    · rw [if_pos h0]
      have : val xs = 0 := by rw [← val_trimL, h0.2]; rfl
      rw [val_cons, h0.1, this]; simp [limbs_zero]
    · rw [if_neg h0]
      have hne : val (x :: xs) ≠ 0 := by
        intro hv
        have hx : x = 0 := by simp [val] at hv; omega
        have hv2 : val xs = 0 := by
          rw [val_cons, hx] at hv
          have := Nat.mul_eq_zero.1 (by omega : BW * val xs = 0)
          rcases this with h | h
          · have := BW_pos; omega
          · exact h
        exact h0 ⟨hx, by rw [← ih, hv2, limbs_zero]⟩
      rw [limbs_pos hne, val_cons, Nat.add_mul_mod_self_left, Nat.mod_eq_of_lt h.head, Nat.add_mul_div_left _ _ BW_pos, Nat.div_eq_of_lt h.head, Nat.zero_add, ih]
theorem trimL_limbs (n : Nat) : trimL (limbs n) = limbs n := by rw [← limbs_val (Bd_limbs n), val_limbs]
theorem trimL_append_zero (xs : List Nat) : trimL (xs ++ [0]) = trimL xs := by
  induction xs with
  | nil => simp [trimL]
  | cons x xs ih => rw [List.cons_append, trimL_cons, trimL_cons, ih]
theorem trimL_last {xs : List Nat} {x : Nat} (hx : x ≠ 0) : trimL (xs ++ [x]) = xs ++ [x] := by
  induction xs with
  | nil => simp [trimL, hx]
  | cons y xs ih => rw [List.cons_append, trimL_cons, ih]; simp
theorem trimL_nil : trimL [] = [] := rfl
theorem trimL_length (xs : List Nat) : (trimL xs).length ≤ xs.length := by
  induction xs with
  | nil => simp [trimL]
  | cons x xs ih => rw [trimL_cons]; split <;> simp <;> omega
/-- Trimming the beginning of a list whose rest is noughts. -/
theorem trimL_take {xs : List Nat} {n : Nat} (hn : n < xs.length) (h : xs.getD n 0 = 0) : trimL (xs.take (n + 1)) = trimL (xs.take n) := by
  rw [take_succ_getD hn, h, trimL_append_zero]
theorem trimL_take_last {xs : List Nat} {n : Nat} (hn : n < xs.length) (h : xs.getD n 0 ≠ 0) : trimL (xs.take (n + 1)) = xs.take (n + 1) := by
  rw [take_succ_getD hn]; exact trimL_last h
theorem trimL_eq {xs ys : List Nat} (hx : Bd xs) (hy : Bd ys) (h : val xs = val ys) : trimL xs = trimL ys := by
  rw [← limbs_val hx, ← limbs_val hy, h]
theorem trimL_of_val {xs : List Nat} (hx : Bd xs) {n : Nat} (h : val xs = n) : trimL xs = limbs n := by rw [← limbs_val hx, h]

theorem limbs_length_le {n k : Nat} : (limbs n).length ≤ k ↔ n < BW ^ k := by
  constructor
  · intro h
    have h1 := val_lt (Bd_limbs n)
    rw [val_limbs] at h1
    exact Nat.lt_of_lt_of_le h1 (Nat.pow_le_pow_right BW_pos h)
  · induction k generalizing n with
    | zero => intro h; have h0 : n = 0 := by simpa using h
              subst h0; simp [limbs_zero]
    | succ k ih =>
      intro h
      by_cases h0 : n = 0
      · subst h0; simp [limbs_zero]
      · rw [limbs_pos h0, List.length_cons]
        have : n / BW < BW ^ k := by rw [Nat.div_lt_iff_lt_mul BW_pos]; simpa [Nat.pow_succ] using h
        exact Nat.succ_le_succ (ih this)
theorem limbs_lt_length {n k : Nat} : k < (limbs n).length ↔ BW ^ k ≤ n := by
  have := @limbs_length_le n k; omega
theorem limbs_lt (n : Nat) : n < BW ^ (limbs n).length := limbs_length_le.1 (Nat.le_refl _)
theorem limbs_le {n : Nat} (h : n ≠ 0) : BW ^ ((limbs n).length - 1) ≤ n := by
  have : 0 < (limbs n).length := List.length_pos_iff.2 (limbs_ne h)
  exact limbs_lt_length.1 (by omega)
theorem limbs_length_mono {a b : Nat} (h : a ≤ b) : (limbs a).length ≤ (limbs b).length :=
  limbs_length_le.2 (Nat.lt_of_le_of_lt h (limbs_lt b))
theorem limbs_length_lt {a b : Nat} (h : (limbs a).length < (limbs b).length) : a < b := by
  rcases Nat.lt_or_ge a b with h1 | h1
  · exact h1
  · have := limbs_length_mono h1; omega
/-- The highest limb is not 0. -/
theorem limbs_top {n : Nat} (h : n ≠ 0) : (limbs n).getD ((limbs n).length - 1) 0 ≠ 0 := by
  intro h0
  have hl : 0 < (limbs n).length := List.length_pos_iff.2 (limbs_ne h)
  have e : limbs n = (limbs n).take ((limbs n).length - 1) ++ [(limbs n).getD ((limbs n).length - 1) 0] := by
    rw [← take_succ_getD (by omega), show (limbs n).length - 1 + 1 = (limbs n).length by omega, List.take_length]
  have e2 := trimL_limbs n
  rw [e, h0, trimL_append_zero] at e2
  have h1 := trimL_length ((limbs n).take ((limbs n).length - 1))
  rw [e2] at h1
  simp at h1; omega
/-- A list of limbs whose highest is not 0 is the limbs of its number. -/
theorem limbs_of_top {xs : List Nat} (hb : Bd xs) (h : 0 < xs.length) (ht : xs.getD (xs.length - 1) 0 ≠ 0) : limbs (val xs) = xs := by
  rw [limbs_val hb]
  have e : xs = xs.take (xs.length - 1) ++ [xs.getD (xs.length - 1) 0] := by
    rw [← take_succ_getD (by omega), show xs.length - 1 + 1 = xs.length by omega, List.take_length]
  rw [e]; exact trimL_last ht

/-- Which of two is less, looked at from the top. -/
theorem val_lt_of_limb {xs ys : List Nat} (hx : Bd xs) (n : Nat) (he : xs.drop (n + 1) = ys.drop (n + 1)) (hl : xs.length = ys.length) (hn : n < xs.length) (h : xs.getD n 0 < ys.getD n 0) : val xs < val ys := by
  have e1 : val xs = val (xs.take (n + 1)) + BW ^ (n + 1) * val (xs.drop (n + 1)) := by
    conv => lhs; rw [← List.take_append_drop (n + 1) xs]
    rw [val_append]; simp [List.length_take, Nat.min_eq_left (show n + 1 ≤ xs.length by omega)]
  have e2 : val ys = val (ys.take (n + 1)) + BW ^ (n + 1) * val (ys.drop (n + 1)) := by
    conv => lhs; rw [← List.take_append_drop (n + 1) ys]
    rw [val_append]; simp [List.length_take, Nat.min_eq_left (show n + 1 ≤ ys.length by omega)]
  rw [e1, e2, he, val_take_succ, val_take_succ]
  have h1 := val_lt (hx.take n)
  rw [List.length_take, Nat.min_eq_left (by omega)] at h1
  have h2 : BW ^ n * xs.getD n 0 + BW ^ n ≤ BW ^ n * ys.getD n 0 := by
    rw [← Nat.mul_succ]; exact Nat.mul_le_mul_left _ h
  omega

/-! ### one limb written -/
theorem getD_set_self {xs : List Nat} {k s : Nat} (h : k < xs.length) : (xs.set k s).getD k 0 = s := by simp [List.getD, h]
theorem take_set_lt {xs : List Nat} {k s : Nat} : (xs.set k s).take k = xs.take k := by
  rw [List.take_set, List.set_eq_of_length_le (by rw [List.length_take]; omega)]
theorem val_set_take {xs : List Nat} {k s : Nat} (h : k < xs.length) : val ((xs.set k s).take (k + 1)) = val (xs.take k) + BW ^ k * s := by
  rw [val_take_succ, take_set_lt, getD_set_self h]
theorem plus_step {p s c' x y c V X Y : Nat} (h : s + BW * c' = x + y + c) (hv : V + p * c = X + Y) : V + p * s + (p * BW) * c' = (X + p * x) + (Y + p * y) := by
  have h1 := congrArg (p * ·) h
  simp only [Nat.mul_add, ← Nat.mul_assoc] at h1
  omega

/-- One limb of a difference: V so far, what was taken off Y so far, the borrow b. -/
theorem minus_step {p s b' x y b V X Y : Nat} (h : s + y + b = x + BW * b') (hv : V + Y = X + p * b) : (V + p * s) + (Y + p * y) = (X + p * x) + (p * BW) * b' := by
  have h1 := congrArg (p * ·) h
  simp only [Nat.mul_add, ← Nat.mul_assoc] at h1
  omega

/-- One limb of a product's row. -/
theorem mac_step {p q x y z cy s cy' V V0 W : Nat} (h : s + BW * cy' = x * y + z + cy) (hv : V + (q * p) * cy = V0 + q * (x * W)) : (V + (q * p) * s) + (q * (p * BW)) * cy' = (V0 + (q * p) * z) + q * (x * (W + p * y)) := by
  have h1 := congrArg (q * p * ·) h
  simp only [Nat.mul_add, ← Nat.mul_assoc] at h1 hv ⊢
  have e1 : q * p * BW * cy' = q * p * BW * cy' := rfl
  have e2 : q * x * p * y = q * p * x * y := by ac_rfl
  omega
theorem val_set_ge {xs : List Nat} {k s n : Nat} (h : n ≤ k) : (xs.set k s).take n = xs.take n := by
  rw [List.take_set, List.set_eq_of_length_le (by rw [List.length_take]; omega)]
theorem getD_set_ne {xs : List Nat} {k s j : Nat} (h : k ≠ j) : (xs.set k s).getD j 0 = xs.getD j 0 := by simp [List.getD, List.getElem?_set, h]

theorem val_drop {xs : List Nat} {k : Nat} (h : k < xs.length) : val (xs.drop k) = xs.getD k 0 + BW * val (xs.drop (k + 1)) := by
  rw [List.drop_eq_getElem_cons h, val_cons, getD_eq h]
theorem val_set_drop {xs : List Nat} {k q : Nat} (h : k < xs.length) : val ((xs.set k q).drop k) = q + BW * val (xs.drop (k + 1)) := by
  rw [val_drop (by simpa using h), getD_set_self h, List.drop_set_of_lt (by omega)]

end Go.Proofs.YtedoeadhbcjjgaaDoor

/- Plain mathematics: division of two digits by one (math/bits.Div64's way), and of many by many (big's way). No program. -/
namespace Go.Proofs.YtedoeadhbcjjgaaDoor

section
variable {U a b c D Y q r : Nat}

theorem dv_init (hY : Y = a * D + b) (hb : b < D) (ha : D ≤ 2 * a) (h0 : 0 < a) (haD : a ≤ D) (hc : c < D) (hU : U < Y) : (U * D + c) / Y ≤ U / a ∧ U / a ≤ D + 1 ∧ U / a * a + U % a = U ∧ U % a < D := by
  refine ⟨?_, ?_, ?_, ?_⟩
  · rw [Nat.le_div_iff_mul_le h0]
    have h1 := Nat.div_mul_le_self (U * D + c) Y
    generalize (U * D + c) / Y = q1 at *
    rw [hY, Nat.mul_add, ← Nat.mul_assoc] at h1
    have h2 : q1 * a * D < (U + 1) * D := by rw [Nat.add_mul]; omega
    have := Nat.lt_of_mul_lt_mul_right h2
    omega
  · rcases Nat.lt_or_ge (U / a) (D + 2) with h | h
    · omega
    · have h1 := (Nat.le_div_iff_mul_le h0).1 h
      rw [Nat.add_mul, Nat.mul_comm D a] at h1
      omega
  · rw [Nat.mul_comm]; exact Nat.div_add_mod U a
  · exact Nat.lt_of_lt_of_le (Nat.mod_lt _ h0) haD

theorem dv_lt (hU : U < Y) (hc : c < D) : (U * D + c) / Y < D := by
  rw [Nat.div_lt_iff_lt_mul (by omega)]
  have : (U + 1) * D ≤ Y * D := Nat.mul_le_mul_right _ hU
  rw [Nat.add_mul] at this
  rw [Nat.mul_comm D Y]
  omega

theorem dv_prod (hY : Y = a * D + b) (hq : q * a + r = U) : q * Y + r * D = U * D + q * b := by
  rw [hY, ← hq]; simp only [Nat.mul_add, Nat.add_mul, Nat.mul_assoc]; omega

/-- The guess is too great. -/
theorem dv_more (hY : Y = a * D + b) (hc : c < D) (hU : U < Y) (hq : q * a + r = U) (ht : D ≤ q ∨ D * r + c < q * b) : (U * D + c) / Y + 1 ≤ q := by
  rcases ht with h | h
  · have := dv_lt (c := c) hU hc; omega
  · have h1 := dv_prod hY hq
    rcases Nat.lt_or_ge ((U * D + c) / Y) q with h2 | h2
    · exact h2
    · have h3 := Nat.mul_le_mul_right Y h2
      have h4 := Nat.div_mul_le_self (U * D + c) Y
      rw [Nat.mul_comm D r] at h
      omega
/-- The guess is not too great. -/
theorem dv_stop (hY : Y = a * D + b) (hp : 0 < Y) (hq : q * a + r = U) (h1 : (U * D + c) / Y ≤ q) (ht : q * b ≤ D * r + c) : q = (U * D + c) / Y := by
  refine Nat.le_antisymm ?_ h1
  rw [Nat.le_div_iff_mul_le hp]
  have := dv_prod hY hq
  rw [Nat.mul_comm D r] at ht
  omega
/-- What is left has become too great to go on. -/
theorem dv_break (hY : Y = a * D + b) (hb : b < D) (hp : 0 < Y) (hq : (q + 1) * a + r = U) (h1 : (U * D + c) / Y ≤ q) (hqD : q ≤ D) (ht : D ≤ r + a) : q = (U * D + c) / Y := by
  refine dv_stop (r := r + a) hY hp (by rw [← hq, Nat.add_mul]; omega) h1 ?_
  have h2 : q * b ≤ D * D := Nat.mul_le_mul hqD (Nat.le_of_lt hb)
  have h3 : D * D ≤ D * (r + a) := Nat.mul_le_mul_left _ ht
  omega
end

/-- Two digits of the quotient, one after the other. -/
theorem dv_two {U c d D Y : Nat} (hp : 0 < Y) (hd : d < D) : let r1 := (U * D + c) % Y
    ((U * D + c) * D + d) / Y = (U * D + c) / Y * D + (r1 * D + d) / Y ∧ ((U * D + c) * D + d) % Y = (r1 * D + d) % Y := by
  intro r1
  have h1 : (U * D + c) * D + d = r1 * D + d + Y * ((U * D + c) / Y * D) := by
    have := Nat.div_add_mod (U * D + c) Y
    conv => lhs; rw [← this]
    rw [Nat.add_mul, Nat.mul_assoc]; show _ = (U * D + c) % Y * D + d + _; omega
  rw [h1, Nat.add_mul_div_left _ _ hp, Nat.add_mul_mod_self_left]
  exact ⟨Nat.add_comm _ _, rfl⟩

end Go.Proofs.YtedoeadhbcjjgaaDoor

/- Plain mathematics: shifts. No program. -/
namespace Go.Proofs.YtedoeadhbcjjgaaDoor

theorem left_step {p s x low W V B : Nat} (hp : V + p * low = W * s) (h : (x * s) % B + low + B * (x * s / B) = x * s + low) : V + p * ((x * s) % B + low) + (p * B) * (x * s / B) = (W + p * x) * s := by
  have h1 := congrArg (p * ·) h
  simp only [Nat.mul_add, ← Nat.mul_assoc] at h1
  rw [Nat.add_mul, ← hp, Nat.mul_add]
  omega

theorem replicate_val_append (q : Nat) (ds : List Nat) : val (List.replicate q 0 ++ ds) = BW ^ q * val ds := by
  rw [val_append, val_replicate]; simp
theorem pow_split (n : Nat) : 2 ^ n = BW ^ (n / 64) * 2 ^ (n % 64) := by
  rw [BW_pow, ← Nat.pow_mul, ← Nat.pow_add, Nat.div_add_mod]
theorem right_digit {y R s t : Nat} (hst : 2 ^ s * 2 ^ t = BW) : (y + BW * R) / 2 ^ s = (y / 2 ^ s + (R % 2 ^ s) * 2 ^ t) + BW * (R / 2 ^ s) := by
  have hsp : 0 < 2 ^ s := Nat.pow_pos (by omega)
  have e1 : BW * R = 2 ^ s * (2 ^ t * R) := by rw [← hst, Nat.mul_assoc]
  rw [e1, Nat.add_mul_div_left _ _ hsp]
  have e2 : 2 ^ t * R = (R % 2 ^ s) * 2 ^ t + BW * (R / 2 ^ s) := by
    conv => lhs; rw [← Nat.div_add_mod R (2 ^ s)]
    rw [Nat.mul_add, ← hst, Nat.add_comm]; congr 1
    · exact Nat.mul_comm _ _
    · ac_rfl
  rw [e2]; omega
theorem mod_low {y R s t : Nat} (hst : 2 ^ s * 2 ^ t = BW) : (y + BW * R) % 2 ^ s = y % 2 ^ s := by
  rw [← hst, Nat.mul_assoc, Nat.add_mul_mod_self_left]
theorem shl_low {y s t : Nat} (hst : 2 ^ s * 2 ^ t = BW) : y * 2 ^ t % BW = (y % 2 ^ s) * 2 ^ t := by
  rw [← hst, Nat.mul_mod_mul_right]
/-- What is cut off: limbs, then bits. -/
theorem cut_mod {A p y R s t : Nat} (hst : 2 ^ s * 2 ^ t = BW) (hA : A < p) : (A + p * (y + BW * R)) % (p * 2 ^ s) = A + p * (y % 2 ^ s) := by
  have hsp : 0 < 2 ^ s := Nat.pow_pos (by omega)
  have e : A + p * (y + BW * R) = A + p * (y % 2 ^ s) + (p * 2 ^ s) * (y / 2 ^ s + 2 ^ t * R) := by
    have := Nat.div_add_mod y (2 ^ s)
    conv => lhs; rw [← this, ← hst]
    simp only [Nat.mul_add, Nat.mul_assoc]; omega
  rw [e, Nat.add_mul_mod_self_left, Nat.mod_eq_of_lt]
  have h1 : p * (y % 2 ^ s) + p ≤ p * 2 ^ s := by
    rw [← Nat.mul_succ]; exact Nat.mul_le_mul_left _ (Nat.mod_lt _ hsp)
  omega
theorem cut_div {A p y s : Nat} (hA : A < p) : (A + p * y) / (p * 2 ^ s) = y / 2 ^ s := by
  rw [← Nat.div_div_eq_div_mul, Nat.add_mul_div_left _ _ (by omega), Nat.div_eq_of_lt hA, Nat.zero_add]

end Go.Proofs.YtedoeadhbcjjgaaDoor

/- Plain mathematics: one digit of a long division. No program. -/
namespace Go.Proofs.YtedoeadhbcjjgaaDoor

/-- One limb of u less q times v: lo' + B carry' = q y + carry; z + lo' + borrow = u + B borrow'. -/
theorem sub_step {p u lo cy cy' b b' z q y V V0 W B : Nat} (h1 : lo + B * cy' = q * y + cy) (h2 : z + lo + b = u + B * b') (hv : V + q * W = V0 + p * (cy + b)) :
    (V + p * z) + q * (W + p * y) = (V0 + p * u) + (p * B) * (cy' + b') := by
  have e1 := congrArg (p * ·) h1
  have e2 := congrArg (p * ·) h2
  simp only [Nat.mul_add, ← Nat.mul_assoc] at e1 e2 hv ⊢
  have e3 : q * p * y = p * q * y := by ac_rfl
  omega
/-- The highest limb. -/
theorem sub_top {p u cy b b' z q V V0 W B : Nat} (h2 : z + cy + b = u + B * b') (hv : V + q * W = V0 + p * (cy + b)) : (V + p * z) + q * W = (V0 + p * u) + (p * B) * b' := by
  have e2 := congrArg (p * ·) h2
  simp only [Nat.mul_add, ← Nat.mul_assoc] at e2 hv ⊢
  omega
/-- One digit back. -/
theorem back_step {R R' q V W p c b : Nat} (h : R' + p * c = R + V) (hv : R + (q + 1) * V = W + p * b) (hcb : c ≤ b) : R' + q * V = W + p * (b - c) := by
  rw [Nat.add_mul, Nat.one_mul] at hv
  obtain ⟨d, rfl⟩ : ∃ d, b = c + d := ⟨b - c, by omega⟩
  rw [Nat.mul_add] at hv
  rw [Nat.add_sub_cancel_left]
  omega
/-- While something is owed, the guess is too great. -/
theorem digit_more {R q V W p : Nat} (hR : R < p) (hv : R + q * V = W + p) (hV : 0 < V) : W / V + 1 ≤ q := by
  rw [Nat.succ_le_iff, Nat.div_lt_iff_lt_mul hV]; omega
theorem digit_stop {R q V W : Nat} (hv : R + q * V = W) (hV : 0 < V) (hq : W / V ≤ q) : q = W / V ∧ R = W % V := by
  have h1 : q ≤ W / V := by rw [Nat.le_div_iff_mul_le hV]; omega
  have h2 : q = W / V := by omega
  refine ⟨h2, ?_⟩
  have := Nat.div_add_mod W V
  rw [← h2, Nat.mul_comm] at this; omega
/-- The guess is not too small. -/
theorem guess_ge {W V p ut ul vt r rv : Nat} (hW : W = r + p * (ul + BW * ut)) (hr : r < p) (hV : V = rv + p * vt) (hvt : 0 < vt) (hp : 0 < p) : W / V ≤ (ut * BW + ul) / vt := by
  rw [Nat.le_div_iff_mul_le hvt]
  have h1 := Nat.div_mul_le_self W V
  generalize W / V = q at *
  have h2 : q * vt * p ≤ q * V := by rw [hV, Nat.mul_add, Nat.mul_assoc, Nat.mul_comm vt p]; omega
  have h3 : q * vt * p < (ut * BW + ul + 1) * p := by
    rw [Nat.add_mul, Nat.one_mul, Nat.mul_comm (ut * BW + ul) p, Nat.add_comm (ut * BW) ul, Nat.mul_comm ut BW]; omega
  have := Nat.lt_of_mul_lt_mul_right h3
  omega
end Go.Proofs.YtedoeadhbcjjgaaDoor

/- Plain mathematics: long division as a whole. No program. -/
namespace Go.Proofs.YtedoeadhbcjjgaaDoor

/-- One digit of the quotient: what is left, what has been told. -/
theorem long_step {A V p W D X : Nat} (hA : A = (X + p * W) + V * (p * BW) * D) (hV : 0 < V) : A = (X + p * (W % V)) + V * p * (W / V + BW * D) := by
  have h := Nat.div_add_mod W V
  have e1 : p * W = p * (V * (W / V)) + p * (W % V) := by rw [← Nat.mul_add, h]
  have e2 : V * p * (W / V + BW * D) = p * (V * (W / V)) + V * (p * BW) * D := by
    rw [Nat.mul_add]; congr 1
    · ac_rfl
    · ac_rfl
  rw [hA, e1, e2]; omega
theorem long_lt {V p W X : Nat} (hX : X < p) (hV : 0 < V) : X + p * (W % V) < V * p := by
  have h1 : p * (W % V) + p ≤ p * V := by rw [← Nat.mul_succ]; exact Nat.mul_le_mul_left _ (Nat.mod_lt _ hV)
  rw [Nat.mul_comm V p]; omega
theorem window_lt {V p W X : Nat} (h : X + p * W < V * (p * BW)) : W < BW * V := by
  have h1 : p * W < p * (BW * V) := by
    have : V * (p * BW) = p * (BW * V) := by ac_rfl
    omega
  exact Nat.lt_of_mul_lt_mul_left h1
theorem long_end {a b s R Q : Nat} (h : a * 2 ^ s = R + b * 2 ^ s * Q) (hR : R < b * 2 ^ s) : Q = a / b ∧ R = (a % b) * 2 ^ s := by
  have hs : 0 < 2 ^ s := Nat.pow_pos (by omega)
  have hb : 0 < b := Nat.pos_of_ne_zero (by rintro rfl; simp at hR)
  have h1 : a * 2 ^ s / (b * 2 ^ s) = Q := by
    rw [h, Nat.add_mul_div_left _ _ (by exact Nat.mul_pos hb hs), Nat.div_eq_of_lt hR, Nat.zero_add]
  have h2 : a * 2 ^ s % (b * 2 ^ s) = R := by rw [h, Nat.add_mul_mod_self_left, Nat.mod_eq_of_lt hR]
  rw [Nat.mul_div_mul_right _ _ hs] at h1
  rw [Nat.mul_mod_mul_right] at h2
  exact ⟨h1.symm, h2.symm⟩
/-- A number's limbs, seen as three pieces. -/
theorem val_three {us : List Nat} {o m : Nat} (h : o + m ≤ us.length) : us = us.take o ++ (us.drop o).take m ++ us.drop (o + m) ∧ (us.take o).length = o ∧ ((us.drop o).take m).length = m := by
  refine ⟨?_, by simp; omega, by simp; omega⟩
  rw [← List.drop_drop, List.append_assoc, List.take_append_drop, List.take_append_drop]
theorem val_pws {P ws S : List Nat} {o m : Nat} (hP : P.length = o) (hw : ws.length = m) : val (P ++ ws ++ S) = val P + BW ^ o * val ws + BW ^ (o + m) * val S := by
  rw [List.append_assoc, val_append, val_append, hP, hw, Nat.pow_add, Nat.mul_add, ← Nat.mul_assoc]; omega
/-- The two noughts behind, cut off. -/
theorem val_pad {xs : List Nat} {n : Nat} (h : xs.length ≤ n) : val ((xs ++ [0, 0]).take n) = val xs := by
  by_cases h2 : n ≤ xs.length + 2
  · have : n = xs.length ∨ n = xs.length + 1 ∨ n = xs.length + 2 := by omega
    rcases this with rfl | rfl | rfl
    · rw [List.take_append_of_le_length (Nat.le_refl _), List.take_length]
    · rw [List.take_append, List.take_of_length_le (by omega), val_append]; simp [val]
    · rw [List.take_of_length_le (by simp), val_append]; simp [val]
  · rw [List.take_of_length_le (by simp; omega), val_append]; simp [val]
end Go.Proofs.YtedoeadhbcjjgaaDoor

/- Plain mathematics: Berlekamp's and Massey's way, modulo a prime. No program. -/
namespace Go.Proofs.YtedoeadhbcjjgaaDoor

/-- A finite sum. -/
def sg : Nat → (Nat → Int) → Int
  | 0, _ => 0
  | n + 1, f => sg n f + f n

theorem sg_congr {n : Nat} {f g : Nat → Int} (h : ∀ i, i < n → f i = g i) : sg n f = sg n g := by
  induction n with
  | zero => rfl
  | succ n ih => simp only [sg]; rw [ih (fun i hi => h i (by omega)), h n (by omega)]
theorem sg_dvd {p : Int} {n : Nat} {f : Nat → Int} (h : ∀ i, i < n → p ∣ f i) : p ∣ sg n f := by
  induction n with
  | zero => exact ⟨0, by simp [sg]⟩
  | succ n ih => simp only [sg]; exact Int.dvd_add (ih fun i hi => h i (by omega)) (h n (by omega))
theorem sg_sub (n : Nat) (f g : Nat → Int) : sg n f - sg n g = sg n (fun i => f i - g i) := by
  induction n with
  | zero => rfl
  | succ n ih => simp only [sg]; rw [← ih]; omega
theorem sg_add (n : Nat) (f g : Nat → Int) : sg n f + sg n g = sg n (fun i => f i + g i) := by
  induction n with
  | zero => rfl
  | succ n ih => simp only [sg]; rw [← ih]; omega
theorem sg_mul (n : Nat) (a : Int) (f : Nat → Int) : a * sg n f = sg n (fun i => a * f i) := by
  induction n with
  | zero => simp [sg]
  | succ n ih => simp only [sg]; rw [← ih, Int.mul_add]
theorem sg_neg (n : Nat) (f : Nat → Int) : - sg n f = sg n (fun i => - f i) := by
  induction n with
  | zero => rfl
  | succ n ih => simp only [sg]; rw [← ih]; omega
theorem sg_zero (n : Nat) : sg n (fun _ => 0) = 0 := by
  induction n with
  | zero => rfl
  | succ n ih => simp only [sg]; rw [ih]; rfl
theorem sg_more {n m : Nat} (f : Nat → Int) (hnm : n ≤ m) (h : ∀ i, n ≤ i → i < m → f i = 0) : sg m f = sg n f := by
  induction m with
  | zero => rw [show n = 0 by omega]
  | succ m ih =>
    by_cases e : n = m + 1
    · rw [e]
    · simp only [sg]; rw [ih (by omega) (fun i h1 h2 => h i h1 (by omega)), h m (by omega) (by omega)]; omega
theorem sg_first (n : Nat) (f : Nat → Int) : sg (n + 1) f = f 0 + sg n (fun i => f (i + 1)) := by
  induction n with
  | zero => simp [sg]
  | succ n ih => rw [sg, ih]; simp only [sg]; omega
theorem sg_shift (n m : Nat) (f : Nat → Int) : sg (m + n) f = sg m f + sg n (fun i => f (m + i)) := by
  induction n with
  | zero => simp [sg]
  | succ n ih => rw [← Nat.add_assoc, sg, ih]; simp only [sg]; omega
theorem sg_swap (n m : Nat) (f : Nat → Nat → Int) : sg n (fun i => sg m (fun j => f i j)) = sg m (fun j => sg n (fun i => f i j)) := by
  induction n with
  | zero => simp only [sg]; rw [sg_zero]
  | succ n ih => simp only [sg]; rw [ih, sg_add]
theorem sg_dvd_sub {p : Int} {n : Nat} {f g : Nat → Int} (h : ∀ i, i < n → p ∣ f i - g i) : p ∣ sg n f - sg n g := by
  rw [sg_sub]; exact sg_dvd h

/-- c's numbers 0 to d with the row's ones up to n, backwards. -/
def cv (d : Nat) (c s : Nat → Int) (n : Nat) : Int := sg (d + 1) (fun i => c i * s (n - i))

theorem cv_more {d e : Nat} {c : Nat → Int} (s : Nat → Int) (n : Nat) (hde : d ≤ e) (h : ∀ i, d < i → c i = 0) : cv e c s n = cv d c s n := by
  unfold cv
  exact sg_more _ (by omega) (fun i h1 h2 => by rw [h i (by omega)]; simp)

theorem cv_swap (d e : Nat) (a c s : Nat → Int) (n : Nat) : cv d a (cv e c s) n = cv e c (cv d a s) n := by
  unfold cv
  have h1 : sg (d + 1) (fun i => a i * sg (e + 1) (fun j => c j * s (n - i - j))) = sg (d + 1) (fun i => sg (e + 1) (fun j => a i * (c j * s (n - i - j)))) := sg_congr fun i _ => sg_mul _ _ _
  have h2 : sg (e + 1) (fun j => c j * sg (d + 1) (fun i => a i * s (n - j - i))) = sg (e + 1) (fun j => sg (d + 1) (fun i => c j * (a i * s (n - j - i)))) := sg_congr fun i _ => sg_mul _ _ _
  rw [h1, h2, sg_swap]
  refine sg_congr fun j _ => sg_congr fun i _ => ?_
  rw [Nat.sub_right_comm, ← Int.mul_assoc, ← Int.mul_assoc, Int.mul_comm (a i)]

/-- Massey's bound: what makes a row that c makes but for its last number is longer. -/
theorem massey {p : Int} {d e : Nat} {a c s : Nat → Int} {n : Nat} (ha : a 0 = 1) (hA : ∀ k, d ≤ k → k ≤ n → p ∣ cv d a s k) (hC : ∀ k, e ≤ k → k < n → p ∣ cv e c s k) (hn : d + e ≤ n) : p ∣ cv e c s n := by
  have h1 : p ∣ cv e c (cv d a s) n := by
    unfold cv
    refine sg_dvd fun i hi => Int.dvd_mul_of_dvd_right ?_
    exact hA (n - i) (by omega) (by omega)
  rw [← cv_swap] at h1
  have h2 : cv d a (cv e c s) n = cv e c s n + sg d (fun i => a (i + 1) * cv e c s (n - (i + 1))) := by
    conv => lhs; unfold cv
    rw [sg_first, ha, Int.one_mul, Nat.sub_zero]
    rfl
  have h3 : p ∣ sg d (fun i => a (i + 1) * cv e c s (n - (i + 1))) := sg_dvd fun i hi => Int.dvd_mul_of_dvd_right (hC _ (by omega) (by omega))
  have h4 : cv e c s n = cv d a (cv e c s) n - sg d (fun i => a (i + 1) * cv e c s (n - (i + 1))) := by omega
  rw [h4]
  exact Int.dvd_sub h1 h3

/-- One step: c less b times x^m times B. -/
theorem cv_mix {p : Int} {d e m M : Nat} {c B c' s : Nat → Int} {b : Int} {k : Nat} (hc : ∀ i, d < i → c i = 0) (hB : ∀ i, e < i → B i = 0) (hd : d ≤ M) (he : m + e ≤ M)
    (h1 : ∀ i, i < m → c' i = c i) (h2 : ∀ i, m ≤ i → i ≤ M → p ∣ c' i - (c i - b * B (i - m))) : p ∣ cv M c' s k - (cv d c s k - b * cv e B s (k - m)) := by
  have e1 : cv d c s k = sg (M + 1) (fun i => c i * s (k - i)) := (cv_more s k hd hc).symm
  have e2 : b * cv e B s (k - m) = sg (M + 1) (fun i => if i < m then 0 else b * (B (i - m) * s (k - i))) := by
    rw [show M + 1 = m + (M - m + 1) by omega, sg_shift]
    have h0 : sg m (fun i => if i < m then 0 else b * (B (i - m) * s (k - i))) = 0 := by
      rw [sg_congr (g := fun _ => 0) (fun i hi => by simp [hi]), sg_zero]
    rw [h0, Int.zero_add, ← cv_more s (k - m) (show e ≤ M - m by omega) hB]
    unfold cv
    rw [sg_mul]
    refine sg_congr fun i _ => ?_
    rw [if_neg (by omega), show m + i - m = i by omega, show k - m - i = k - (m + i) by omega]
  rw [e1, e2, sg_sub]
  unfold cv
  refine sg_dvd_sub fun i hi => ?_
  by_cases him : i < m
  · rw [if_pos him, h1 i him]; simp
  · rw [if_neg him]
    have h := h2 i (by omega) (by omega)
    have h3 : c' i * s (k - i) - (c i * s (k - i) - b * (B (i - m) * s (k - i))) = (c' i - (c i - b * B (i - m))) * s (k - i) := by
      rw [Int.sub_mul, Int.sub_mul, Int.mul_assoc]
    rw [h3]
    exact Int.dvd_mul_of_dvd_left h

end Go.Proofs.YtedoeadhbcjjgaaDoor

/- Plain mathematics: Berlekamp's and Massey's way as a function of lists, its invariant. No program. -/
namespace Go.Proofs.YtedoeadhbcjjgaaDoor

/-- The inverse of x modulo p, if there is one. -/
def pinv (p : Nat) (x : Int) : Nat := ((List.range p).find? (fun v => x.toNat * v % p == 1)).getD 0

theorem pinv_eq {p x v : Nat} (hv : v < p) (h : x * v % p = 1) : pinv p (x : Int) = v := by
  unfold pinv
  rw [Int.toNat_natCast]
  cases hf : (List.range p).find? (fun v => x * v % p == 1) with
  | none =>
    rw [List.find?_eq_none] at hf
    exact absurd h (by simpa using hf v (by simpa using hv))
  | some u =>
    have h1 := List.find?_some hf
    have h2 := List.mem_of_find?_eq_some hf
    simp only [beq_iff_eq] at h1
    have hu : u < p := by simpa using h2
    show u = v
    have e1 : (u * (x * v)) % p = u % p := by rw [Nat.mul_mod, h, Nat.mul_one, Nat.mod_mod]
    have e2 : (v * (x * u)) % p = v % p := by rw [Nat.mul_mod, h1, Nat.mul_one, Nat.mod_mod]
    have e3 : u * (x * v) = v * (x * u) := by rw [Nat.mul_left_comm u x v, Nat.mul_left_comm v x u, Nat.mul_comm u v]
    rw [e3, e2, Nat.mod_eq_of_lt hv, Nat.mod_eq_of_lt hu] at e1
    exact e1.symm

structure BM where
  now : List Int
  tn : List Int
  size : Nat
  since : Nat
  was : Int

def bmOff (p : Int) (now row : List Int) (n : Nat) : Nat → Int
  | 0 => 0
  | k + 1 => if k ≤ n then (bmOff p now row n k + now.getD k 0 * row.getD (n - k) 0) % p else bmOff p now row n k
def bmPad (now : List Int) (m : Nat) : List Int := now ++ List.replicate (m - now.length) 0
def bmMix (p b : Int) (m : Nat) (tn Z : List Int) : Nat → List Int
  | 0 => Z
  | k + 1 => (bmMix p b m tn Z k).set (k + m) (((bmMix p b m tn Z k).getD (k + m) 0 - b * tn.getD k 0 % p) % p)
def bmStep (p : Nat) (row : List Int) (n : Nat) (st : BM) : BM :=
  if bmOff p st.now row n st.now.length = 0 then { st with since := st.since + 1 }
  else if n < 2 * st.size then { st with now := bmMix p (bmOff p st.now row n st.now.length * pinv p st.was % p) st.since st.tn (bmPad st.now (st.tn.length + st.since)) st.tn.length, since := st.since + 1 }
  else ⟨bmMix p (bmOff p st.now row n st.now.length * pinv p st.was % p) st.since st.tn (bmPad st.now (st.tn.length + st.since)) st.tn.length, st.now, n + 1 - st.size, 1, bmOff p st.now row n st.now.length⟩
def bmRun (p : Nat) (row : List Int) : Nat → BM
  | 0 => ⟨[1], [1], 0, 1, 1⟩
  | n + 1 => bmStep p row n (bmRun p row n)
def bmOut (p : Nat) (st : BM) : List Int := (List.range st.size).map fun i => if i + 1 < st.now.length then (-(st.now.getD (i + 1) 0)) % (p : Int) else 0

/-! ### ranges, lengths -/
def In (p : Int) (x : Int) : Prop := 0 ≤ x ∧ x < p
def Ins (p : Int) (l : List Int) : Prop := ∀ x ∈ l, In p x
theorem In.mod {p : Int} (hp : 1 < p) (x : Int) : In p (x % p) := ⟨Int.emod_nonneg _ (by omega), Int.emod_lt_of_pos _ (by omega)⟩
theorem Ins.get {p : Int} (hp : 1 < p) {l : List Int} (h : Ins p l) (k : Nat) : In p (l.getD k 0) := by
  by_cases hk : k < l.length
  · rw [show l.getD k 0 = l[k] by simp [List.getD, hk]]; exact h _ (List.getElem_mem hk)
  · rw [show l.getD k 0 = 0 by simp [List.getD, Nat.le_of_not_lt hk]]; exact ⟨by omega, by omega⟩
theorem Ins.set {p : Int} {l : List Int} (h : Ins p l) (k : Nat) {x : Int} (hx : In p x) : Ins p (l.set k x) := by
  intro y hy
  rcases List.mem_or_eq_of_mem_set hy with hy | rfl
  · exact h y hy
  · exact hx
theorem Ins.pad {p : Int} (hp : 1 < p) {l : List Int} (h : Ins p l) (m : Nat) : Ins p (bmPad l m) := by
  intro y hy
  rcases List.mem_append.1 hy with hy | hy
  · exact h y hy
  · rw [(List.mem_replicate.1 hy).2]; exact ⟨by omega, by omega⟩
theorem bmMix_length (p b : Int) (m : Nat) (tn Z : List Int) (k : Nat) : (bmMix p b m tn Z k).length = Z.length := by
  induction k with
  | zero => rfl
  | succ k ih => simp [bmMix, ih]
theorem bmPad_length (l : List Int) (m : Nat) : (bmPad l m).length = max l.length m := by simp [bmPad]; omega
theorem Ins.mix {p : Int} (hp : 1 < p) {b : Int} {m : Nat} {tn Z : List Int} (hZ : Ins p Z) (k : Nat) : Ins p (bmMix p b m tn Z k) := by
  induction k with
  | zero => exact hZ
  | succ k ih => exact ih.set _ (In.mod hp _)
theorem bmOff_in {p : Int} (hp : 1 < p) (now row : List Int) (n k : Nat) : In p (bmOff p now row n k) := by
  induction k with
  | zero => exact ⟨by simp [bmOff], by simp [bmOff]; omega⟩
  | succ k ih =>
    simp only [bmOff]
    split
    · exact In.mod hp _
    · exact ih
theorem getD_set (l : List Int) (i j : Nat) (x : Int) : (l.set i x).getD j 0 = if i = j ∧ i < l.length then x else l.getD j 0 := by
  simp only [List.getD, List.getElem?_set]
  by_cases h : i = j
  · subst h
    by_cases h2 : i < l.length
    · simp [h2]
    · simp [h2]
  · simp [h]
theorem bmPad_getD (l : List Int) (m i : Nat) : (bmPad l m).getD i 0 = l.getD i 0 := by
  unfold bmPad
  by_cases h : i < l.length
  · simp only [List.getD]
    rw [List.getElem?_append_left h]
  · simp only [List.getD]
    rw [List.getElem?_append_right (by omega), List.getElem?_eq_none (l := l) (by omega), List.getElem?_replicate]
    split <;> rfl
/-- What the mixing loop computes. -/
theorem bmMix_getD (p b : Int) (m : Nat) (tn Z : List Int) (k : Nat) (hk : k + m ≤ Z.length) (i : Nat) :
    (bmMix p b m tn Z k).getD i 0 = if m ≤ i ∧ i < m + k then (Z.getD i 0 - b * tn.getD (i - m) 0 % p) % p else Z.getD i 0 := by
  induction k generalizing i with
  | zero => rw [if_neg (by omega)]; rfl
  | succ k ih =>
    simp only [bmMix]
    rw [getD_set, bmMix_length, ih (by omega), ih (by omega)]
    by_cases h1 : k + m = i
    · subst h1
      rw [if_pos ⟨rfl, by omega⟩, if_neg (by omega), if_pos (by omega), show k + m - m = k by omega]
    · rw [if_neg (by omega)]
      by_cases h2 : m ≤ i ∧ i < m + k
      · rw [if_pos h2, if_pos (by omega)]
      · rw [if_neg h2, if_neg (by omega)]

/-! ### what is off -/
theorem dvd_mod_sub (p x : Int) : p ∣ x % p - x := ⟨-(x / p), by rw [Int.mul_neg]; have := Int.emod_add_mul_ediv x p; omega⟩
theorem bmOff_dvd (p : Int) (now row : List Int) (n : Nat) : ∀ k, p ∣ bmOff p now row n k - sg (min k (n + 1)) (fun i => now.getD i 0 * row.getD (n - i) 0)
  | 0 => ⟨0, by simp [bmOff, sg]⟩
  | k + 1 => by
    have ih := bmOff_dvd p now row n k
    simp only [bmOff]
    by_cases h : k ≤ n
    · rw [if_pos h, show min (k + 1) (n + 1) = k + 1 by omega]
      rw [show min k (n + 1) = k by omega] at ih
      simp only [sg]
      have h1 := dvd_mod_sub p (bmOff p now row n k + now.getD k 0 * row.getD (n - k) 0)
      have h2 := Int.dvd_add h1 ih
      generalize (bmOff p now row n k + now.getD k 0 * row.getD (n - k) 0) % p = x at h1 h2 ⊢
      generalize now.getD k 0 * row.getD (n - k) 0 = y at h1 h2 ⊢
      generalize bmOff p now row n k = z at h1 h2 ⊢
      generalize sg k (fun i => now.getD i 0 * row.getD (n - i) 0) = u at h1 h2 ⊢
      rw [show x - (u + y) = x - (z + y) + (z - u) by omega]
      exact h2
    · rw [if_neg h, show min (k + 1) (n + 1) = min k (n + 1) by omega]
      exact ih
end Go.Proofs.YtedoeadhbcjjgaaDoor

/- Plain mathematics: Berlekamp's and Massey's way: the invariant of its rounds. No program. -/
namespace Go.Proofs.YtedoeadhbcjjgaaDoor

def cf (l : List Int) (i : Nat) : Int := l.getD i 0
theorem cf_out {l : List Int} {i : Nat} (h : l.length ≤ i) : cf l i = 0 := by simp [cf, List.getD, h]

/-- What is known of the rule ahead of the last longer one. -/
def Old (p : Nat) (row : List Int) (n : Nat) (st : BM) : Prop := st.size = 0 ∨ ∃ r L, n = r + st.since ∧ st.size + L = r + 1 ∧ st.tn.length ≤ L + 1 ∧ (∀ k, L ≤ k → k < r → (p : Int) ∣ cv L (cf st.tn) (cf row) k) ∧ L ≤ r ∧ (p : Int) ∣ cv L (cf st.tn) (cf row) r - st.was
/-- The invariant behind n rounds. -/
structure BInv (p : Nat) (row : List Int) (n : Nat) (st : BM) : Prop where
  le : st.size ≤ n
  pos : 1 ≤ st.since
  one : cf st.now 0 = 1
  len0 : 0 < st.now.length
  len : st.now.length ≤ st.size + 1
  gen : ∀ k, st.size ≤ k → k < n → (p : Int) ∣ cv st.size (cf st.now) (cf row) k
  inow : Ins p st.now
  itn : Ins p st.tn
  iwas : In p st.was
  was0 : st.was ≠ 0
  tn0 : 0 < st.tn.length
  tlen : st.tn.length + st.since ≤ n + 2 - st.size
  old : Old p row n st

theorem off_dvd {p : Nat} {row : List Int} {n : Nat} {st : BM} (h : BInv p row n st) : (p : Int) ∣ bmOff p st.now row n st.now.length - cv st.size (cf st.now) (cf row) n := by
  have h1 := bmOff_dvd p st.now row n st.now.length
  have h2 : cv st.size (cf st.now) (cf row) n = sg (min st.now.length (n + 1)) (fun i => st.now.getD i 0 * row.getD (n - i) 0) := by
    have hl := h.len
    have hle := h.le
    rw [show min st.now.length (n + 1) = st.now.length by omega]
    unfold cv
    exact sg_more _ hl (fun i hi _ => by rw [cf_out hi]; simp)
  rw [h2]; exact h1

theorem mod_zero_of_dvd_sub {p a : Int} (h : In p a) (hd : p ∣ a) : a = 0 := by
  have := Int.emod_eq_zero_of_dvd hd
  rwa [Int.emod_eq_of_lt h.1 h.2] at this

theorem BInv.start {p : Nat} (hp : 1 < p) (row : List Int) : BInv p row 0 ⟨[1], [1], 0, 1, 1⟩ where
  le := Nat.le_refl _
  pos := Nat.le_refl _
  one := rfl
  len0 := by simp
  len := by simp
  gen := fun k _ h => by omega
  inow := by intro x hx; simp at hx; subst hx; exact ⟨by omega, by omega⟩
  itn := by intro x hx; simp at hx; subst hx; exact ⟨by omega, by omega⟩
  iwas := ⟨by simp, by simp; omega⟩
  was0 := by simp
  tn0 := by simp
  tlen := by simp
  old := .inl rfl

/-- The inverse serves. -/
def HasInv (p : Nat) : Prop := ∀ x : Int, In p x → x ≠ 0 → (x * pinv p x) % p = 1

theorem mix_dvd {p : Nat} {off was : Int} (hinv : (was * pinv p was) % p = 1) {dn dB : Int} (h1 : (p : Int) ∣ off - dn) (h2 : (p : Int) ∣ dB - was) : (p : Int) ∣ dn - off * pinv p was % p * dB := by
  have h3 : (p : Int) ∣ off * pinv p was % p - off * pinv p was := dvd_mod_sub _ _
  have h4 : (p : Int) ∣ (was * pinv p was) - 1 := by
    have := Int.dvd_neg.2 (dvd_mod_sub (p : Int) (was * pinv p was))
    rw [hinv] at this
    rwa [show -(1 - was * (pinv p was : Int)) = was * pinv p was - 1 by omega] at this
  have e : dn - off * pinv p was % p * dB = -(off - dn) + (-((off * pinv p was % p - off * pinv p was) * dB)) + (-(off * pinv p was * (dB - was))) + (-(off * ((was * pinv p was) - 1))) := by
    generalize off * pinv p was % p = z
    rw [Int.sub_mul, Int.mul_sub, Int.mul_sub, Int.mul_assoc off (pinv p was : Int) was, Int.mul_comm (pinv p was : Int) was, Int.mul_one]
    omega
  rw [e]
  refine Int.dvd_add (Int.dvd_add (Int.dvd_add (Int.dvd_neg.2 h1) (Int.dvd_neg.2 (Int.dvd_mul_of_dvd_left h3))) (Int.dvd_neg.2 (Int.dvd_mul_of_dvd_right h2))) (Int.dvd_neg.2 (Int.dvd_mul_of_dvd_right h4))

theorem BInv.step {p : Nat} (hp : 1 < p) (hinv : HasInv p) {row : List Int} {n : Nat} {st : BM} (h : BInv p row n st) : BInv p row (n + 1) (bmStep p row n st) := by
  have hp' : (1 : Int) < p := by omega
  have hoff := off_dvd h
  have hin := bmOff_in hp' st.now row n st.now.length
  obtain ⟨le, pos, one, len0, len, gen, inow, itn, iwas, was0, tn0, tlen, old⟩ := h
  unfold bmStep
  by_cases h0 : bmOff p st.now row n st.now.length = 0
  · rw [if_pos h0]
    rw [h0] at hoff
    have hz : (p : Int) ∣ cv st.size (cf st.now) (cf row) n := by
      have := Int.dvd_neg.2 hoff
      rwa [show -(0 - cv st.size (cf st.now) (cf row) n) = cv st.size (cf st.now) (cf row) n by omega] at this
    refine ⟨(by show st.size ≤ n + 1; omega), by simp, one, len0, len, ?_, inow, itn, iwas, was0, tn0, (by show _ ≤ n + 1 + 2 - st.size; show st.tn.length + (st.since + 1) ≤ _; omega), ?_⟩
    · intro k h1 h2
      rcases Nat.lt_or_ge k n with h3 | h3
      · exact gen k h1 h3
      · rw [show k = n by omega]; exact hz
    · rcases old with old | ⟨r, L, h1, h2, h3⟩
      · exact .inl old
      · exact .inr ⟨r, L, (by show n + 1 = r + (st.since + 1); omega), h2, h3⟩
  · rw [if_neg h0]
    generalize ho : bmOff p st.now row n st.now.length = off at *
    generalize hb : off * pinv p st.was % (p : Int) = b
    have hbin : In p b := hb ▸ In.mod hp' _
    generalize hN : bmMix p b st.since st.tn (bmPad st.now (st.tn.length + st.since)) st.tn.length = now'
    have hl' : now'.length = max st.now.length (st.tn.length + st.since) := by rw [← hN, bmMix_length, bmPad_length]
    have hget : ∀ i, cf now' i = if st.since ≤ i ∧ i < st.since + st.tn.length then (cf st.now i - b * cf st.tn (i - st.since) % p) % p else cf st.now i := by
      intro i
      unfold cf
      rw [← hN, bmMix_getD _ _ _ _ _ _ (by rw [bmPad_length]; omega), bmPad_getD]
    have hin' : Ins p now' := by rw [← hN]; exact Ins.mix hp' (inow.pad hp' _) _
    have hone' : cf now' 0 = 1 := by rw [hget, if_neg (by omega)]; exact one
    have hm1 : ∀ i, i < st.since → cf now' i = cf st.now i := fun i hi => by rw [hget, if_neg (by omega)]
    have hm2 : ∀ i, st.since ≤ i → (p : Int) ∣ cf now' i - (cf st.now i - b * cf st.tn (i - st.since)) := by
      intro i hi
      rw [hget]
      by_cases hi2 : i < st.since + st.tn.length
      · rw [if_pos ⟨hi, hi2⟩]
        have e1 := dvd_mod_sub (p : Int) (cf st.now i - b * cf st.tn (i - st.since) % p)
        have e2 := dvd_mod_sub (p : Int) (b * cf st.tn (i - st.since))
        generalize (cf st.now i - b * cf st.tn (i - st.since) % p) % p = z at *
        have e3 := Int.dvd_sub e1 e2
        rw [show z - (cf st.now i - b * cf st.tn (i - st.since)) = z - (cf st.now i - b * cf st.tn (i - st.since) % p) - (b * cf st.tn (i - st.since) % p - b * cf st.tn (i - st.since)) by omega]
        exact e3
      · rw [if_neg (by omega), cf_out (l := st.tn) (by omega)]
        simp
    by_cases h2 : n < 2 * st.size
    · rw [if_pos h2]
      refine ⟨(by show st.size ≤ n + 1; omega), by simp, hone', (by show 0 < now'.length; omega), (by show now'.length ≤ st.size + 1; omega), ?_, hin', itn, iwas, was0, tn0, (by show st.tn.length + (st.since + 1) ≤ n + 1 + 2 - st.size; omega), ?_⟩
      · intro k hk1 hk2
        simp only at hk1 hk2 ⊢
        obtain ⟨r, L, e1, e2, e3, e4, e5, e6⟩ : ∃ r L, n = r + st.since ∧ st.size + L = r + 1 ∧ st.tn.length ≤ L + 1 ∧ (∀ k, L ≤ k → k < r → (p : Int) ∣ cv L (cf st.tn) (cf row) k) ∧ L ≤ r ∧ (p : Int) ∣ cv L (cf st.tn) (cf row) r - st.was := by
          rcases old with old | old
          · omega
          · exact old
        have hmix := cv_mix (p := (p : Int)) (d := st.size) (e := L) (m := st.since) (M := st.size) (c := cf st.now) (B := cf st.tn) (c' := cf now') (s := cf row) (b := b) (k := k)
          (fun i hi => cf_out (by omega)) (fun i hi => cf_out (by omega)) (Nat.le_refl _) (by omega) hm1 (fun i hi _ => hm2 i hi)
        rcases Nat.lt_or_ge k n with h3 | h3
        · have g1 := gen k hk1 h3
          have g2 := e4 (k - st.since) (by omega) (by omega)
          have g3 := Int.dvd_add hmix (Int.dvd_sub g1 (Int.dvd_mul_of_dvd_right (b := b) g2))
          rwa [Int.sub_add_cancel] at g3
        · have hkn : k = n := by omega
          subst hkn
          rw [show k - st.since = r by omega] at hmix
          have g3 := Int.dvd_add hmix (show (p : Int) ∣ cv st.size (cf st.now) (cf row) k - b * cv L (cf st.tn) (cf row) r from hb ▸ mix_dvd (hinv st.was iwas was0) hoff e6)
          rwa [Int.sub_add_cancel] at g3
      · rcases old with old | ⟨r, L, h1, h2, h3⟩
        · omega
        · exact .inr ⟨r, L, (by show n + 1 = r + (st.since + 1); omega), h2, h3⟩
    · rw [if_neg h2]
      refine ⟨(by show n + 1 - st.size ≤ n + 1; omega), by simp, hone', (by show 0 < now'.length; omega), (by show now'.length ≤ n + 1 - st.size + 1; omega), ?_, hin', inow, hin, h0, len0, (by show st.now.length + 1 ≤ n + 1 + 2 - (n + 1 - st.size); omega), .inr ⟨n, st.size, rfl, (by show n + 1 - st.size + st.size = n + 1; omega), len, gen, by omega, ?_⟩⟩
      · intro k hk1 hk2
        simp only at hk1 hk2 ⊢
        rcases old with old | ⟨r, L, e1, e2, e3, e4, e5, e6⟩
        · omega
        · have hmix := cv_mix (p := (p : Int)) (d := st.size) (e := L) (m := st.since) (M := n + 1 - st.size) (c := cf st.now) (B := cf st.tn) (c' := cf now') (s := cf row) (b := b) (k := k)
            (fun i hi => cf_out (by omega)) (fun i hi => cf_out (by omega)) (by omega) (by omega) hm1 (fun i hi _ => hm2 i hi)
          rcases Nat.lt_or_ge k n with h3 | h3
          · have g1 := gen k (by omega) h3
            have g2 := e4 (k - st.since) (by omega) (by omega)
            have g3 := Int.dvd_add hmix (Int.dvd_sub g1 (Int.dvd_mul_of_dvd_right (b := b) g2))
            rwa [Int.sub_add_cancel] at g3
          · have hkn : k = n := by omega
            subst hkn
            rw [show k - st.since = r by omega] at hmix
            have g3 := Int.dvd_add hmix (show (p : Int) ∣ cv st.size (cf st.now) (cf row) k - b * cv L (cf st.tn) (cf row) r from hb ▸ mix_dvd (hinv st.was iwas was0) hoff e6)
            rwa [Int.sub_add_cancel] at g3
      · have := Int.dvd_neg.2 hoff
        rwa [show -(off - cv st.size (cf st.now) (cf row) n) = cv st.size (cf st.now) (cf row) n - off by omega] at this

theorem bmRun_inv {p : Nat} (hp : 1 < p) (hinv : HasInv p) (row : List Int) : ∀ n, BInv p row n (bmRun p row n)
  | 0 => BInv.start hp row
  | n + 1 => (bmRun_inv hp hinv row n).step hp hinv
end Go.Proofs.YtedoeadhbcjjgaaDoor

/- Plain mathematics: a row gone on by a rule, modulo a number. No program. -/
namespace Go.Proofs.YtedoeadhbcjjgaaDoor

/-- The rule's sum behind k of its numbers, at place i. -/
def sumK (rule : List Int) (p : Int) (l : List Int) (i : Nat) : Nat → Int
  | 0 => 0
  | k + 1 => (sumK rule p l i k + rule.getD k 0 % p * l.getD (i - 1 - k) 0) % p
def goesStep (first rule : List Int) (p : Int) (l : List Int) (i : Nat) : Int := if i < rule.length then first.getD i 0 % p else sumK rule p l i rule.length
def goesL (first rule : List Int) (p : Int) : Nat → List Int
  | 0 => []
  | i + 1 => goesL first rule p i ++ [goesStep first rule p (goesL first rule p i) i]

theorem goesL_length (first rule : List Int) (p : Int) : ∀ n, (goesL first rule p n).length = n
  | 0 => rfl
  | n + 1 => by simp [goesL, goesL_length first rule p n]
theorem sumK_range (rule : List Int) {p : Int} (hp : 1 < p) (l : List Int) (i : Nat) : ∀ k, 0 ≤ sumK rule p l i k ∧ sumK rule p l i k < p
  | 0 => by simp [sumK]; omega
  | k + 1 => ⟨Int.emod_nonneg _ (by omega), Int.emod_lt_of_pos _ (by omega)⟩
theorem goesStep_range (first rule : List Int) {p : Int} (hp : 1 < p) (l : List Int) (i : Nat) : 0 ≤ goesStep first rule p l i ∧ goesStep first rule p l i < p := by
  unfold goesStep
  split
  · exact ⟨Int.emod_nonneg _ (by omega), Int.emod_lt_of_pos _ (by omega)⟩
  · exact sumK_range rule hp l i _
theorem goesL_range (first rule : List Int) {p : Int} (hp : 1 < p) : ∀ n, ∀ x ∈ goesL first rule p n, 0 ≤ x ∧ x < p
  | 0, x, h => by simp [goesL] at h
  | n + 1, x, h => by
    simp only [goesL, List.mem_append, List.mem_singleton] at h
    rcases h with h | rfl
    · exact goesL_range first rule hp n x h
    · exact goesStep_range first rule hp _ _


theorem sumK_dvd (rule : List Int) (p : Int) (l : List Int) (i : Nat) : ∀ k, p ∣ sumK rule p l i k - sg k (fun k => rule.getD k 0 % p * l.getD (i - 1 - k) 0)
  | 0 => ⟨0, by simp [sumK, sg]⟩
  | k + 1 => by
    have ih := sumK_dvd rule p l i k
    simp only [sumK, sg]
    have h1 := dvd_mod_sub p (sumK rule p l i k + rule.getD k 0 % p * l.getD (i - 1 - k) 0)
    have h2 := Int.dvd_add h1 ih
    generalize (sumK rule p l i k + rule.getD k 0 % p * l.getD (i - 1 - k) 0) % p = x at h1 h2 ⊢
    generalize rule.getD k 0 % p * l.getD (i - 1 - k) 0 = y at h1 h2 ⊢
    generalize sumK rule p l i k = z at h1 h2 ⊢
    generalize sg k (fun k => rule.getD k 0 % p * l.getD (i - 1 - k) 0) = u at h1 h2 ⊢
    rw [show x - (u + y) = x - (z + y) + (z - u) by omega]
    exact h2
theorem goesL_take (first rule : List Int) (p : Int) (m : Nat) : ∀ n, m ≤ n → (goesL first rule p n).take m = goesL first rule p m
  | 0, h => by rw [show m = 0 by omega]; rfl
  | n + 1, h => by
    by_cases e : m = n + 1
    · rw [e, List.take_of_length_le (by rw [goesL_length]; omega)]
    · simp only [goesL]
      rw [List.take_append_of_le_length (by rw [goesL_length]; omega), goesL_take first rule p m n (by omega)]
theorem getD_take (l : List Int) {m k : Nat} (h : k < m) : (l.take m).getD k 0 = l.getD k 0 := by
  simp only [List.getD, List.getElem?_take, if_pos h]
theorem goesL_at (first rule : List Int) (p : Int) {n k : Nat} (h : k < n) : (goesL first rule p n).getD k 0 = goesStep first rule p (goesL first rule p k) k := by
  rw [← getD_take _ (Nat.lt_succ_self k), goesL_take first rule p (k + 1) n (by omega)]
  simp only [goesL, List.getD]
  rw [List.getElem?_append_right (by rw [goesL_length]; omega), goesL_length, Nat.sub_self]
  rfl
theorem goesL_low (first rule : List Int) (p : Int) {n k m : Nat} (hk : k < m) (hm : m ≤ n) : (goesL first rule p m).getD k 0 = (goesL first rule p n).getD k 0 := by
  rw [← goesL_take first rule p m n hm, getD_take _ hk]
/-- What a rule makes, makes sums that are 0. -/
theorem goesL_gen (first rule : List Int) (p : Int) {n k : Nat} (h1 : rule.length ≤ k) (h2 : k < n) :
    p ∣ (goesL first rule p n).getD k 0 - sg rule.length (fun i => rule.getD i 0 % p * (goesL first rule p n).getD (k - 1 - i) 0) := by
  rw [goesL_at first rule p h2]
  unfold goesStep
  rw [if_neg (by omega)]
  have h := sumK_dvd rule p (goesL first rule p k) k rule.length
  have e : sg rule.length (fun i => rule.getD i 0 % p * (goesL first rule p k).getD (k - 1 - i) 0) = sg rule.length (fun i => rule.getD i 0 % p * (goesL first rule p n).getD (k - 1 - i) 0) :=
    sg_congr fun i hi => by rw [goesL_low first rule p (m := k) (n := n) (by omega) (by omega)]
  rw [e] at h
  exact h
end Go.Proofs.YtedoeadhbcjjgaaDoor

/- Plain mathematics: what Berlekamp's and Massey's way tells: it makes the row, it is the shortest, it stays. No program. -/
namespace Go.Proofs.YtedoeadhbcjjgaaDoor

theorem bmOut_length (p : Nat) (st : BM) : (bmOut p st).length = st.size := by simp [bmOut]
theorem bmOut_at (p : Nat) (st : BM) {k : Nat} (hk : k < st.size) : (bmOut p st).getD k 0 = if k + 1 < st.now.length then (-(st.now.getD (k + 1) 0)) % (p : Int) else 0 := by
  simp [bmOut, List.getD, hk]
theorem bmOut_in {p : Nat} (hp : 1 < p) (st : BM) : Ins p (bmOut p st) := by
  intro x hx
  simp only [bmOut, List.mem_map, List.mem_range] at hx
  obtain ⟨k, hk, rfl⟩ := hx
  split
  · exact In.mod (by omega) _
  · exact ⟨by omega, by omega⟩
theorem bmOut_dvd (p : Nat) (st : BM) {k : Nat} (hk : k < st.size) : (p : Int) ∣ (bmOut p st).getD k 0 % p + cf st.now (k + 1) := by
  rw [bmOut_at p st hk]
  have h1 := dvd_mod_sub (p : Int) (-(st.now.getD (k + 1) 0))
  by_cases h : k + 1 < st.now.length
  · rw [if_pos h, Int.emod_emod_of_dvd _ (Int.dvd_refl _)]
    rwa [Int.sub_neg] at h1
  · rw [if_neg h, cf_out (by omega)]
    simp

/-- The state's sum is the row's number less the told rule's sum. -/
theorem cv_out {p : Nat} {st : BM} (hone : cf st.now 0 = 1) (s : Nat → Int) (k : Nat) : (p : Int) ∣ cv st.size (cf st.now) s k - (s k - sg st.size (fun i => (bmOut p st).getD i 0 % p * s (k - 1 - i))) := by
  unfold cv
  rw [sg_first, hone, Int.one_mul, Nat.sub_zero]
  have e : s k + sg st.size (fun i => cf st.now (i + 1) * s (k - (i + 1))) - (s k - sg st.size (fun i => (bmOut p st).getD i 0 % p * s (k - 1 - i))) = sg st.size (fun i => cf st.now (i + 1) * s (k - (i + 1)) + (bmOut p st).getD i 0 % p * s (k - 1 - i)) := by
    rw [← sg_add]; omega
  rw [e]
  refine sg_dvd fun i hi => ?_
  rw [show k - (i + 1) = k - 1 - i by omega, ← Int.add_mul, Int.add_comm]
  exact Int.dvd_mul_of_dvd_left (bmOut_dvd p st hi)

theorem eq_of_dvd_in {p x y : Int} (hx : In p x) (hy : In p y) (h : p ∣ x - y) : x = y := by
  have h1 := Int.emod_emod_of_dvd x (Int.dvd_refl p)
  have : x % p = y % p := Int.emod_eq_emod_iff_emod_sub_eq_zero.2 (Int.emod_eq_zero_of_dvd h)
  rwa [Int.emod_eq_of_lt hx.1 hx.2, Int.emod_eq_of_lt hy.1 hy.2] at this

/-- The told rule makes the row of its first numbers. -/
theorem bm_makes {p : Nat} (hp : 1 < p) (hinv : HasInv p) {row : List Int} (hrow : Ins p row) {n : Nat} (hn : n ≤ row.length) :
    goesL (row.take (bmRun p row row.length).size) (bmOut p (bmRun p row row.length)) p n = row.take n := by
  have hI := bmRun_inv hp hinv row row.length
  induction n with
  | zero => rfl
  | succ n ih =>
    rw [goesL, ih (by omega), List.take_succ_eq_append_getElem (by omega)]
    congr 1
    rw [List.cons.injEq]
    refine ⟨?_, rfl⟩
    have hx : row[n] = row.getD n 0 := by simp [List.getD, show n < row.length by omega]
    rw [hx]
    unfold goesStep
    rw [bmOut_length]
    by_cases h : n < (bmRun p row row.length).size
    · rw [if_pos h, getD_take _ h]
      have := hrow.get (by omega) n
      exact Int.emod_eq_of_lt this.1 this.2
    · rw [if_neg h]
      have h1 := hI.gen n (by omega) (by omega)
      have h2 := cv_out (p := p) hI.one (cf row) n
      have h3 := sumK_dvd (bmOut p (bmRun p row row.length)) p (row.take n) n (bmRun p row row.length).size
      have e : sg (bmRun p row row.length).size (fun k => (bmOut p (bmRun p row row.length)).getD k 0 % (p : Int) * (row.take n).getD (n - 1 - k) 0) = sg (bmRun p row row.length).size (fun i => (bmOut p (bmRun p row row.length)).getD i 0 % (p : Int) * cf row (n - 1 - i)) :=
        sg_congr fun i hi => by rw [getD_take _ (by omega)]; rfl
      rw [e] at h3
      refine eq_of_dvd_in (sumK_range _ (by omega) _ _ _) (hrow.get (by omega) n) ?_
      have h4 := Int.dvd_sub (Int.dvd_add h2 h3) h1
      show (p : Int) ∣ sumK (bmOut p (bmRun p row row.length)) p (row.take n) n (bmRun p row row.length).size - cf row n
      generalize cv (bmRun p row row.length).size (cf (bmRun p row row.length).now) (cf row) n = a at h4
      generalize sumK (bmOut p (bmRun p row row.length)) p (row.take n) n (bmRun p row row.length).size = b at h4 ⊢
      generalize sg (bmRun p row row.length).size (fun i => (bmOut p (bmRun p row row.length)).getD i 0 % (p : Int) * cf row (n - 1 - i)) = c at h4
      rw [show b - cf row n = a - (cf row n - c) + (b - c) - a by omega]
      exact h4

theorem bm_makes_all {p : Nat} (hp : 1 < p) (hinv : HasInv p) {row : List Int} (hrow : Ins p row) :
    goesL (row.take (bmRun p row row.length).size) (bmOut p (bmRun p row row.length)) p row.length = row := by
  rw [bm_makes hp hinv hrow (Nat.le_refl _), List.take_length]

/-- The told rule is no longer than any that makes the row. -/
theorem bm_min {p : Nat} (hp : 1 < p) (hinv : HasInv p) (row : List Int) {N d : Nat} {a : Nat → Int} (ha : a 0 = 1) (hA : ∀ k, d ≤ k → k < N → (p : Int) ∣ cv d a (cf row) k) : ∀ n, n ≤ N → (bmRun p row n).size ≤ d
  | 0, _ => Nat.zero_le _
  | n + 1, hn => by
    have ih := bm_min hp hinv row ha hA n (by omega)
    have hI := bmRun_inv hp hinv row n
    have hoff := off_dvd hI
    have hin := bmOff_in (p := (p : Int)) (by omega) (bmRun p row n).now row n (bmRun p row n).now.length
    rw [bmRun]
    unfold bmStep
    by_cases h0 : bmOff p (bmRun p row n).now row n (bmRun p row n).now.length = 0
    · rw [if_pos h0]; exact ih
    · rw [if_neg h0]
      by_cases h2 : n < 2 * (bmRun p row n).size
      · rw [if_pos h2]; exact ih
      · rw [if_neg h2]
        show n + 1 - (bmRun p row n).size ≤ d
        rcases Nat.lt_or_ge n (d + (bmRun p row n).size) with h3 | h3
        · omega
        · exfalso
          have h4 := massey ha (fun k h1 h2 => hA k h1 (by omega)) hI.gen h3
          have h5 := Int.dvd_add hoff h4
          rw [Int.sub_add_cancel] at h5
          exact h0 (mod_zero_of_dvd_sub hin h5)

/-- A rule as a polynomial. -/
def ruleP (p : Int) (rule : List Int) : Nat → Int
  | 0 => 1
  | i + 1 => -(rule.getD i 0 % p)
theorem ruleP_gen {p : Int} (first rule : List Int) {n k : Nat} (h1 : rule.length ≤ k) (h2 : k < n) : p ∣ cv rule.length (ruleP p rule) (cf (goesL first rule p n)) k := by
  have h := goesL_gen first rule p h1 h2
  unfold cv
  rw [sg_first]
  simp only [ruleP, Int.one_mul, Nat.sub_zero]
  have e : sg rule.length (fun i => -(rule.getD i 0 % p) * cf (goesL first rule p n) (k - (i + 1))) = - sg rule.length (fun i => rule.getD i 0 % p * (goesL first rule p n).getD (k - 1 - i) 0) := by
    rw [sg_neg]
    exact sg_congr fun i _ => by rw [show k - (i + 1) = k - 1 - i by omega, Int.neg_mul]; rfl
  rw [e]
  exact h
theorem bm_short {p : Nat} (hp : 1 < p) (hinv : HasInv p) (first rule : List Int) (n : Nat) : (bmRun p (goesL first rule p n) n).size ≤ rule.length :=
  bm_min hp hinv _ rfl (fun _ h1 h2 => ruleP_gen first rule h1 h2) n (Nat.le_refl _)

/-- Only the numbers so far count. -/
theorem bmOff_congr (p : Int) (now : List Int) {row row' : List Int} {n : Nat} (h : ∀ k, k ≤ n → row.getD k 0 = row'.getD k 0) : ∀ k, bmOff p now row n k = bmOff p now row' n k
  | 0 => rfl
  | k + 1 => by
    simp only [bmOff]
    rw [bmOff_congr p now h k, h (n - k) (by omega)]
theorem bmRun_congr (p : Nat) {row row' : List Int} : ∀ n, (∀ k, k < n → row.getD k 0 = row'.getD k 0) → bmRun p row n = bmRun p row' n
  | 0, _ => rfl
  | n + 1, h => by
    simp only [bmRun]
    rw [bmRun_congr p n (fun k hk => h k (by omega))]
    unfold bmStep
    rw [bmOff_congr p _ (row := row) (row' := row') (fun k hk => h k (by omega))]

/-- A state that a row made, and the longer row that its rule makes: the rule stays. -/
theorem bm_stays {p : Nat} (hp : 1 < p) (hinv : HasInv p) {row : List Int} (hrow : Ins p row) (m : Nat) :
    (bmRun p (goesL (row.take (bmRun p row row.length).size) (bmOut p (bmRun p row row.length)) p (row.length + m)) (row.length + m)).now = (bmRun p row row.length).now ∧
    (bmRun p (goesL (row.take (bmRun p row row.length).size) (bmOut p (bmRun p row row.length)) p (row.length + m)) (row.length + m)).size = (bmRun p row row.length).size := by
  generalize hst : bmRun p row row.length = st
  have hI := bmRun_inv hp hinv row row.length
  rw [hst] at hI
  have hpre : ∀ M, row.length ≤ M → ∀ k, k < row.length → row.getD k 0 = (goesL (row.take st.size) (bmOut p st) p M).getD k 0 := by
    intro M hM k hk
    rw [← goesL_low _ _ _ hk hM, ← hst, bm_makes_all hp hinv hrow]
  generalize hL : goesL (row.take st.size) (bmOut p st) p (row.length + m) = L
  have key : ∀ j, j ≤ m → (bmRun p L (row.length + j)).now = st.now ∧ (bmRun p L (row.length + j)).size = st.size := by
    intro j
    induction j with
    | zero =>
      intro _
      rw [Nat.add_zero, ← bmRun_congr p (row := row) (row' := L) row.length (by rw [← hL]; exact hpre _ (by omega)), hst]
      exact ⟨rfl, rfl⟩
    | succ j ih =>
      intro hj
      obtain ⟨h1, h2⟩ := ih (by omega)
      rw [← Nat.add_assoc, bmRun]
      have hI2 := bmRun_inv hp hinv L (row.length + j)
      have hoff := off_dvd hI2
      have hin := bmOff_in (p := (p : Int)) (by omega) (bmRun p L (row.length + j)).now L (row.length + j) (bmRun p L (row.length + j)).now.length
      have hg : (p : Int) ∣ cv st.size (cf st.now) (cf L) (row.length + j) := by
        have g1 := goesL_gen (row.take st.size) (bmOut p st) (p : Int) (n := row.length + m) (k := row.length + j) (by rw [bmOut_length]; have := hI.le; omega) (by omega)
        rw [hL, bmOut_length] at g1
        have g2 := cv_out (p := p) hI.one (cf L) (row.length + j)
        have g3 := Int.dvd_add g2 g1
        change (p : Int) ∣ cv st.size (cf st.now) (cf L) (row.length + j) - (cf L (row.length + j) - sg st.size (fun i => (bmOut p st).getD i 0 % (p : Int) * cf L (row.length + j - 1 - i))) + (cf L (row.length + j) - sg st.size (fun i => (bmOut p st).getD i 0 % (p : Int) * cf L (row.length + j - 1 - i))) at g3
        rwa [Int.sub_add_cancel] at g3
      have h0 : bmOff p (bmRun p L (row.length + j)).now L (row.length + j) (bmRun p L (row.length + j)).now.length = 0 := by
        refine mod_zero_of_dvd_sub hin ?_
        rw [h2] at hoff
        rw [← h1] at hg
        have := Int.dvd_add hoff hg
        rwa [Int.sub_add_cancel] at this
      unfold bmStep
      rw [if_pos h0]
      exact ⟨h1, h2⟩
  exact key m (Nat.le_refl _)
theorem bmOut_congr {p : Nat} {st st' : BM} (h1 : st.now = st'.now) (h2 : st.size = st'.size) : bmOut p st = bmOut p st' := by
  unfold bmOut; rw [h1, h2]
end Go.Proofs.YtedoeadhbcjjgaaDoor

/- Plain mathematics: inverses modulo the statements' nine primes. No program. -/
namespace Go.Proofs.YtedoeadhbcjjgaaDoor

theorem bez_step {a b g n : Nat} {s t : Int} (h1 : ∃ u : Int, s * g = a + n * u) (h2 : ∃ u : Int, t * g = b + n * u) : ∃ u : Int, (s - (a / b : Nat) * t) * g = (a % b : Nat) + n * u := by
  obtain ⟨u, hu⟩ := h1
  obtain ⟨v, hv⟩ := h2
  refine ⟨u - (a / b : Nat) * v, ?_⟩
  have h4 : ((a % b : Nat) : Int) = a - b * (a / b : Nat) := by have := Nat.mod_add_div a b; omega
  rw [Int.sub_mul, Int.mul_assoc, hu, hv, h4, Int.mul_sub, Int.mul_add]
  have e1 : ((a / b : Nat) : Int) * (n * v) = n * ((a / b : Nat) * v) := by ac_rfl
  have e2 : ((a / b : Nat) : Int) * b = b * (a / b : Nat) := by ac_rfl
  omega
theorem bez (g n : Nat) : ∀ k a b : Nat, b ≤ k → ∀ s t : Int, (∃ u : Int, s * g = a + n * u) → (∃ u : Int, t * g = b + n * u) → ∃ r : Int, ∃ u : Int, r * g = (Nat.gcd a b : Nat) + n * u
  | 0, a, b, hb, s, t, h1, _ => by
    have : b = 0 := by omega
    subst this
    rw [Nat.gcd_zero_right]
    exact ⟨s, h1⟩
  | k + 1, a, b, hb, s, t, h1, h2 => by
    rcases Nat.eq_zero_or_pos b with h0 | h0
    · subst h0; rw [Nat.gcd_zero_right]; exact ⟨s, h1⟩
    · rw [Nat.gcd_comm, Nat.gcd_rec, Nat.gcd_comm]
      have := Nat.mod_lt a h0
      exact bez g n k b (a % b) (by omega) t _ h2 (bez_step h1 h2)
theorem inv_exists {x p : Nat} (hp : 1 < p) (h : Nat.Coprime x p) : ∃ v, v < p ∧ x * v % p = 1 := by
  obtain ⟨r, u, hr⟩ := bez x p x p x (Nat.le_refl _) 0 1 ⟨-1, by omega⟩ ⟨0, by omega⟩
  have hg : Nat.gcd p x = 1 := by rw [Nat.gcd_comm]; exact h
  rw [hg] at hr
  have h0 := Int.emod_nonneg r (show (p : Int) ≠ 0 by omega)
  have h1 := Int.emod_lt_of_pos r (show (0 : Int) < p by omega)
  refine ⟨(r % p).toNat, by omega, ?_⟩
  have e : ((x * (r % (p : Int)).toNat : Nat) : Int) % p = 1 := by
    rw [Int.natCast_mul, Int.toNat_of_nonneg h0, Int.mul_comm, Int.mul_emod, Int.emod_emod_of_dvd _ (Int.dvd_refl _), ← Int.mul_emod, hr, Int.add_mul_emod_self_left]
    exact Int.emod_eq_of_lt (by omega) (by omega)
  omega

/-- No divisor among lo .. lo + 2^k - 1, as far as the root. -/
def chkDiv (p lo : Nat) : Nat → Bool
  | 0 => decide (p < lo * lo) || p % lo != 0
  | k + 1 => chkDiv p lo k && chkDiv p (lo + 2 ^ k) k
theorem chkDiv_all {p : Nat} : ∀ k lo, chkDiv p lo k = true → ∀ d, lo ≤ d → d < lo + 2 ^ k → p < d * d ∨ p % d ≠ 0
  | 0, lo, h, d, h1, h2 => by
    have : d = lo := by simp at h2; omega
    subst this
    simpa [chkDiv] using h
  | k + 1, lo, h, d, h1, h2 => by
    simp only [chkDiv, Bool.and_eq_true] at h
    rw [Nat.pow_succ] at h2
    rcases Nat.lt_or_ge d (lo + 2 ^ k) with h3 | h3
    · exact chkDiv_all k lo h.1 d h1 h3
    · exact chkDiv_all k _ h.2 d h3 (by omega)
theorem noDiv_of_chk {p k : Nat} (h : chkDiv p 2 k = true) (hp : p < (2 + 2 ^ k) * (2 + 2 ^ k)) {d : Nat} (h1 : 1 < d) (h2 : d < p) : ¬ d ∣ p := by
  rintro ⟨e, he⟩
  have key : ∀ q r : Nat, 1 < q → q ≤ r → p = q * r → False := by
    intro q r hq hqr hpr
    have h3 : q * q ≤ p := by rw [hpr]; exact Nat.mul_le_mul_left q hqr
    have h4 : q < 2 + 2 ^ k := by
      rcases Nat.lt_or_ge q (2 + 2 ^ k) with h | h
      · exact h
      · have := Nat.mul_le_mul h h; omega
    rcases chkDiv_all k 2 h q hq h4 with h5 | h5
    · omega
    · exact h5 (by rw [hpr]; exact Nat.mul_mod_right q r)
  have he1 : 1 < e := by
    rcases Nat.lt_or_ge 1 e with h | h
    · exact h
    · have : d * e ≤ d * 1 := Nat.mul_le_mul_left d h
      omega
  rcases Nat.le_total d e with h | h
  · exact key d e h1 h he
  · exact key e d he1 h (by rw [he, Nat.mul_comm])
theorem coprime_of_chk {p k : Nat} (h : chkDiv p 2 k = true) (hp : p < (2 + 2 ^ k) * (2 + 2 ^ k)) {x : Nat} (h1 : 0 < x) (h2 : x < p) : Nat.Coprime x p := by
  have hd := Nat.gcd_dvd_right x p
  have hl : Nat.gcd x p ≤ x := Nat.le_of_dvd h1 (Nat.gcd_dvd_left x p)
  have h0 : 0 < Nat.gcd x p := Nat.gcd_pos_of_pos_left p h1
  rcases Nat.lt_or_ge 1 (Nat.gcd x p) with h3 | h3
  · exact absurd hd (noDiv_of_chk h hp h3 (by omega))
  · show Nat.gcd x p = 1; omega

/-- The statements' nine primes. -/
def nine : List Nat := [2, 3, 5, 7, 11, 101, 65537, 1000003, 2147483647]
theorem nine_chk : chkDiv 2147483647 2 16 = true := by decide +kernel
theorem nine_coprime {p : Nat} (hp : p ∈ nine) {x : Nat} (h1 : 0 < x) (h2 : x < p) : Nat.Coprime x p := by
  simp only [nine, List.mem_cons, List.not_mem_nil, or_false] at hp
  rcases hp with rfl | rfl | rfl | rfl | rfl | rfl | rfl | rfl | rfl
  · exact coprime_of_chk (k := 1) (by decide +kernel) (by decide) h1 h2
  · exact coprime_of_chk (k := 1) (by decide +kernel) (by decide) h1 h2
  · exact coprime_of_chk (k := 1) (by decide +kernel) (by decide) h1 h2
  · exact coprime_of_chk (k := 1) (by decide +kernel) (by decide) h1 h2
  · exact coprime_of_chk (k := 2) (by decide +kernel) (by decide) h1 h2
  · exact coprime_of_chk (k := 4) (by decide +kernel) (by decide) h1 h2
  · exact coprime_of_chk (k := 8) (by decide +kernel) (by decide) h1 h2
  · exact coprime_of_chk (k := 10) (by decide +kernel) (by decide) h1 h2
  · exact coprime_of_chk (k := 16) nine_chk (by decide) h1 h2
theorem nine_two {p : Nat} (hp : p ∈ nine) : 1 < p ∧ p < 2147483648 := by
  simp only [nine, List.mem_cons, List.not_mem_nil, or_false] at hp
  omega
theorem nine_inv {p : Nat} (hp : p ∈ nine) : HasInv p := by
  intro x hx h0
  obtain ⟨n, rfl⟩ : ∃ n : Nat, x = (n : Int) := ⟨x.toNat, by have := hx.1; omega⟩
  have h1 := hx.2
  obtain ⟨v, hv, hxv⟩ := inv_exists (nine_two hp).1 (nine_coprime hp (x := n) (by omega) (by omega))
  rw [pinv_eq hv hxv]
  have : ((n * v % p : Nat) : Int) = 1 := by rw [hxv]; rfl
  rw [← this]
  simp
/-- The answer that 'awake' asks for. -/
theorem bm_awake : (bmRun 101 [0, 1, 1, 2, 3, 5, 8, 13] 8).size = 2 ∧ bmOut 101 (bmRun 101 [0, 1, 1, 2, 3, 5, 8, 13] 8) = [1, 1] := by decide +kernel
end Go.Proofs.YtedoeadhbcjjgaaDoor

/- Plain mathematics: digits of 32 bits. No program. -/
namespace Go.Proofs.YtedoeadhbcjjgaaDoor

def DW : Nat := 4294967296
theorem DW_eq : DW = 4294967296 := rfl
theorem DW_BW : DW * DW = BW := rfl
/-- The number of a list of digits. -/
def valD : List Nat → Nat
  | [] => 0
  | x :: xs => x + DW * valD xs
def BdD (xs : List Nat) : Prop := ∀ x ∈ xs, x < DW
theorem BdD.bd {xs : List Nat} (h : BdD xs) : Bd xs := fun x hx => by have := h x hx; rw [DW_eq] at this; rw [BW_eq]; omega
theorem BdD.getD {xs : List Nat} (h : BdD xs) (i : Nat) : xs.getD i 0 < DW := by
  by_cases hi : i < xs.length
  · rw [show xs.getD i 0 = xs[i] by simp [List.getD, hi]]; exact h _ (List.getElem_mem hi)
  · rw [show xs.getD i 0 = 0 by simp [List.getD, Nat.le_of_not_lt hi]]; rw [DW_eq]; omega
def halvesL : List Nat → List Nat
  | [] => []
  | x :: xs => x % DW :: x / DW :: halvesL xs
theorem halvesL_length (xs : List Nat) : (halvesL xs).length = 2 * xs.length := by
  induction xs with
  | nil => rfl
  | cons x xs ih => simp [halvesL, ih]; omega
theorem halvesL_snoc (xs : List Nat) (x : Nat) : halvesL (xs ++ [x]) = halvesL xs ++ [x % DW, x / DW] := by
  induction xs with
  | nil => rfl
  | cons y xs ih => simp [halvesL, ih]
theorem halvesL_bd {xs : List Nat} (h : Bd xs) : BdD (halvesL xs) := by
  induction xs with
  | nil => intro x hx; simp [halvesL] at hx
  | cons y xs ih =>
    intro x hx
    have hy := h.head
    rw [BW_eq] at hy
    simp only [halvesL, List.mem_cons] at hx
    rw [DW_eq] at hx ⊢
    rcases hx with rfl | rfl | hx
    · exact Nat.mod_lt _ (by omega)
    · omega
    · have := ih h.tail x hx; rwa [DW_eq] at this
theorem valD_halves (xs : List Nat) : valD (halvesL xs) = val xs := by
  induction xs with
  | nil => rfl
  | cons y xs ih =>
    simp only [halvesL, valD, val, ih]
    rw [← DW_BW, Nat.mul_add, ← Nat.add_assoc, Nat.mod_add_div, Nat.mul_assoc]
theorem valD_append (xs ys : List Nat) : valD (xs ++ ys) = valD xs + DW ^ xs.length * valD ys := by
  induction xs with
  | nil => simp [valD]
  | cons x xs ih => simp only [List.cons_append, valD, ih, List.length_cons, Nat.pow_succ]; rw [Nat.mul_add, ← Nat.add_assoc, Nat.mul_left_comm, Nat.mul_comm (DW ^ xs.length) DW, Nat.mul_assoc, Nat.mul_left_comm DW]
theorem valD_trim (xs : List Nat) : valD (trimL xs) = valD xs := by
  induction xs with
  | nil => rfl
  | cons x xs ih =>
    rw [trimL_cons]
    by_cases h : x = 0 ∧ trimL xs = []
    · rw [if_pos h]
      simp only [valD]
      rw [← ih, h.1, h.2]; simp [valD]
    · rw [if_neg h]; simp only [valD, ih]
/-- Digits in pairs. -/
def pairL : List Nat → List Nat
  | [] => []
  | [x] => [x]
  | x :: y :: xs => (x + DW * y) :: pairL xs
theorem valD_pair (xs : List Nat) : val (pairL xs) = valD xs := by
  match xs with
  | [] => rfl
  | [x] => simp [pairL, val, valD]
  | x :: y :: xs =>
    simp only [pairL, val, valD, valD_pair xs]
    rw [← DW_BW, Nat.mul_add, Nat.mul_assoc]; omega
theorem pairL_bd {xs : List Nat} (h : BdD xs) : Bd (pairL xs) := by
  match xs, h with
  | [], _ => exact Bd.nil
  | [x], h => exact h.bd
  | x :: y :: xs, h =>
    have h1 := h x (by simp)
    have h2 := h y (by simp)
    rw [DW_eq] at h1 h2
    refine Bd.cons (by rw [BW_eq, DW_eq]; omega) (pairL_bd (fun z hz => h z (by simp [hz])))
theorem pairL_length (xs : List Nat) : (pairL xs).length = (xs.length + 1) / 2 := by
  match xs with
  | [] => rfl
  | [x] => simp [pairL]
  | x :: y :: xs => simp only [pairL, List.length_cons, pairL_length xs]; omega
/-- The first k pairs, one more. -/
def pairAt (xs : List Nat) (k : Nat) : Nat := xs.getD (2 * k) 0 + DW * xs.getD (2 * k + 1) 0
theorem pairL_getD (xs : List Nat) (k : Nat) : (pairL xs).getD k 0 = pairAt xs k := by
  match xs, k with
  | [], k => simp [pairL, pairAt, List.getD]
  | [x], 0 => simp [pairL, pairAt, List.getD]
  | [x], k + 1 => simp [pairL, pairAt, List.getD]
  | x :: y :: xs, 0 => simp [pairL, pairAt, List.getD]
  | x :: y :: xs, k + 1 =>
    have h := pairL_getD xs k
    have e1 : (x :: y :: xs).getD (2 * (k + 1)) 0 = xs.getD (2 * k) 0 := by rw [show 2 * (k + 1) = 2 * k + 1 + 1 by omega]; rfl
    have e2 : (x :: y :: xs).getD (2 * (k + 1) + 1) 0 = xs.getD (2 * k + 1) 0 := by rw [show 2 * (k + 1) + 1 = 2 * k + 1 + 1 + 1 by omega]; rfl
    unfold pairAt at h ⊢
    rw [e1, e2, ← h]; rfl
theorem limbs_valD {xs : List Nat} (h : BdD xs) : trimL (pairL xs) = limbs (valD xs) := by
  rw [← limbs_val (pairL_bd h), valD_pair]
theorem trimL_eq_nil {xs : List Nat} (h : Bd xs) : trimL xs = [] ↔ val xs = 0 := by
  rw [← limbs_val h, limbs_eq_nil]
theorem BdD.trim {xs : List Nat} (h : BdD xs) : BdD (trimL xs) := by
  intro x hx
  have key : ∀ ys : List Nat, ∀ y ∈ trimL ys, y ∈ ys := by
    intro ys
    induction ys with
    | nil => intro y hy; simp [trimL] at hy
    | cons z zs ih =>
      intro y hy
      rw [trimL_cons] at hy
      split at hy
      · simp at hy
      · rcases List.mem_cons.1 hy with rfl | hy
        · simp
        · exact List.mem_cons_of_mem _ (ih y hy)
  exact h x (key xs x hx)
theorem BdD.snoc {xs : List Nat} (h : BdD xs) {x : Nat} (hx : x < DW) : BdD (xs ++ [x]) := by
  intro y hy
  rcases List.mem_append.1 hy with hy | hy
  · exact h y hy
  · simp at hy; subst hy; exact hx
end Go.Proofs.YtedoeadhbcjjgaaDoor

/- Plain mathematics: limbs as bytes. No program. -/
namespace Go.Proofs.YtedoeadhbcjjgaaDoor

/-- The byte at place k, counted from the lowest. -/
def byteAt (xs : List Nat) (k : Nat) : Nat := xs.getD (k / 8) 0 / 2 ^ (8 * (k % 8)) % 256
theorem byteAt_lt (xs : List Nat) (k : Nat) : byteAt xs k < 256 := Nat.mod_lt _ (by omega)
/-- f's numbers, the first k of n; noughts behind. -/
def fillN (f : Nat → Nat) (n k : Nat) : List Nat := (List.range n).map fun i => if i < k then f i else 0
theorem fillN_length (f : Nat → Nat) (n k : Nat) : (fillN f n k).length = n := by simp [fillN]
theorem fillN_zero (f : Nat → Nat) (n : Nat) : fillN f n 0 = List.replicate n 0 := by
  refine List.ext_getElem (by simp [fillN]) ?_
  intro i h1 h2
  simp [fillN]
theorem fillN_set (f : Nat → Nat) (n k : Nat) : (fillN f n k).set k (f k) = fillN f n (k + 1) := by
  refine List.ext_getElem (by simp [fillN]) ?_
  intro i h1 h2
  rw [List.getElem_set]
  simp only [fillN, List.getElem_map, List.getElem_range]
  by_cases hik : k = i
  · subst hik; simp
  · rw [if_neg hik]
    by_cases h3 : i < k
    · rw [if_pos h3, if_pos (by omega)]
    · rw [if_neg h3, if_neg (by omega)]
theorem fillN_at (f : Nat → Nat) {n k i : Nat} (h : i < n) : (fillN f n k).getD i 0 = if i < k then f i else 0 := by
  simp [fillN, List.getD, h]

/-- A number's bits from s on. -/
def topBits (x s : Nat) : Nat := x / 2 ^ s * 2 ^ s
theorem topBits_zero (x : Nat) : topBits x 0 = x := by simp [topBits]
theorem topBits_all {x s : Nat} (hx : x < BW) (hs : 64 ≤ s) : topBits x s = 0 := by
  unfold topBits
  rw [Nat.div_eq_of_lt, Nat.zero_mul]
  have h : 2 ^ 64 ≤ 2 ^ s := Nat.pow_le_pow_right (by omega) hs
  rw [← BW_pow] at h
  omega
theorem topBits_step (x s : Nat) : topBits x s = topBits x (s + 8) + x / 2 ^ s % 256 * 2 ^ s := by
  unfold topBits
  rw [Nat.pow_add, show (2 : Nat) ^ 8 = 256 by rfl, ← Nat.div_div_eq_div_mul]
  have h := Nat.div_add_mod (x / 2 ^ s) 256
  conv => lhs; rw [← h, Nat.add_mul]
  congr 1
  ac_rfl
/-- The limbs' bits from byte t on, and a nought. -/
def topL (xs : List Nat) (t : Nat) : List Nat := (List.range (xs.length + 1)).map fun q => topBits (xs.getD q 0) (8 * (t - 8 * q))
theorem topL_length (xs : List Nat) (t : Nat) : (topL xs t).length = xs.length + 1 := by simp [topL]
theorem topL_at (xs : List Nat) (t : Nat) {q : Nat} (h : q < xs.length + 1) : (topL xs t).getD q 0 = topBits (xs.getD q 0) (8 * (t - 8 * q)) := by
  simp [topL, List.getD, h]
theorem topL_zero (xs : List Nat) : topL xs 0 = xs ++ [0] := by
  refine List.ext_getElem (by simp [topL]) ?_
  intro i h1 h2
  simp only [topL, List.getElem_map, List.getElem_range]
  rw [show 8 * (0 - 8 * i) = 0 by omega, topBits_zero]
  by_cases hi : i < xs.length
  · rw [List.getElem_append_left hi]; simp [List.getD, hi]
  · rw [List.getElem_append_right (by omega)]; simp [List.getD, hi]
theorem topL_all {xs : List Nat} (h : Bd xs) : topL xs (8 * xs.length) = List.replicate (xs.length + 1) 0 := by
  refine List.ext_getElem (by simp [topL]) ?_
  intro i h1 h2
  simp only [topL, List.getElem_map, List.getElem_range, List.getElem_replicate]
  by_cases hi : i < xs.length
  · exact topBits_all (h.getD i) (by omega)
  · rw [getD_ge (by omega)]; simp [topBits]
theorem topL_set {xs : List Nat} (h : Bd xs) {t : Nat} (ht : t < 8 * xs.length) : (topL xs (t + 1)).set (t / 8) ((topL xs (t + 1)).getD (t / 8) 0 + byteAt xs t * 2 ^ (8 * (t % 8))) = topL xs t := by
  refine List.ext_getElem (by simp [topL]) ?_
  intro i h1 h2
  rw [List.getElem_set]
  have hi : i < xs.length + 1 := by simpa [topL] using h2
  by_cases hq : t / 8 = i
  · subst hq
    rw [if_pos rfl, topL_at _ _ hi]
    simp only [topL, List.getElem_map, List.getElem_range]
    rw [show 8 * (t - 8 * (t / 8)) = 8 * (t % 8) by omega, show 8 * (t + 1 - 8 * (t / 8)) = 8 * (t % 8) + 8 by omega]
    unfold byteAt
    exact (topBits_step _ _).symm
  · rw [if_neg hq]
    simp only [topL, List.getElem_map, List.getElem_range]
    rcases Nat.lt_or_ge i (t / 8) with h3 | h3
    · rw [topBits_all (h.getD i) (by omega), topBits_all (h.getD i) (by omega)]
    · rw [show 8 * (t - 8 * i) = 0 by omega, show 8 * (t + 1 - 8 * i) = 0 by omega]
theorem topBits_lt {x s : Nat} (hx : x < BW) : topBits x s < BW := by
  have : topBits x s ≤ x := Nat.div_mul_le_self x (2 ^ s)
  omega
theorem topL_bd {xs : List Nat} (h : Bd xs) (t : Nat) : Bd (topL xs t) := by
  intro y hy
  simp only [topL, List.mem_map] at hy
  obtain ⟨q, _, rfl⟩ := hy
  exact topBits_lt (h.getD q)
theorem topL_mult (xs : List Nat) {t : Nat} (ht : t < 8 * xs.length) : ∃ hi, (topL xs (t + 1)).getD (t / 8) 0 = hi * 2 ^ (8 * (t % 8) + 8) := by
  rw [topL_at _ _ (by omega), show 8 * (t + 1 - 8 * (t / 8)) = 8 * (t % 8) + 8 by omega]
  exact ⟨_, rfl⟩
theorem byte_shift_lt (xs : List Nat) (t : Nat) : byteAt xs t * 2 ^ (8 * (t % 8)) < 2 ^ (8 * (t % 8) + 8) := by
  rw [Nat.pow_add, Nat.mul_comm (byteAt xs t)]
  have h2 : 0 < 2 ^ (8 * (t % 8)) := Nat.pow_pos (by omega)
  exact (Nat.mul_lt_mul_left h2).2 (byteAt_lt xs t)
end Go.Proofs.YtedoeadhbcjjgaaDoor

/- Plain mathematics: limbs told in bytes, and back. No program. -/
namespace Go.Proofs.YtedoeadhbcjjgaaDoor

theorem bytes_step (L s : Nat) : L / 2 ^ (s + 8) * 256 + L / 2 ^ s % 256 = L / 2 ^ s := by
  rw [Nat.pow_add, show (2 : Nat) ^ 8 = 256 by rfl, ← Nat.div_div_eq_div_mul]
  have h := Nat.div_add_mod (L / 2 ^ s) 256
  rw [Nat.mul_comm]; exact h
theorem byteAt_in (xs : List Nat) (k r : Nat) (hr : r < 8) : byteAt xs (8 * k + r) = xs.getD k 0 / 2 ^ (8 * r) % 256 := by
  unfold byteAt
  rw [show (8 * k + r) / 8 = k by omega, show (8 * k + r) % 8 = r by omega]
/-- n bytes are as many as xs needs. -/
def Enough (xs : List Nat) (n : Nat) : Prop := n ≤ 8 * xs.length ∧ (xs.length = 0 ∧ n = 0 ∨ 8 * (xs.length - 1) < n ∧ xs.getD (xs.length - 1) 0 < 2 ^ (8 * (n - 8 * (xs.length - 1))))
theorem Enough.at_ {xs : List Nat} {n : Nat} (h : Enough xs n) (hb : Bd xs) {k : Nat} (hk : k < xs.length) : 8 * k < n ∧ xs.getD k 0 / 2 ^ (8 * min 8 (n - 8 * k)) = 0 := by
  obtain ⟨h1, h2⟩ := h
  rcases h2 with ⟨h2, _⟩ | ⟨h2, h3⟩
  · omega
  · refine ⟨by omega, Nat.div_eq_of_lt ?_⟩
    by_cases h8 : 8 ≤ n - 8 * k
    · rw [Nat.min_eq_left h8]
      have := hb.getD k
      rwa [BW_pow] at this
    · rw [Nat.min_eq_right (by omega)]
      have hkl : k = xs.length - 1 := by omega
      subst hkl
      exact h3
theorem Enough.done {xs : List Nat} {n : Nat} (h : Enough xs n) {k : Nat} (hk : n ≤ 8 * k) (hkl : k ≤ xs.length) : k = xs.length := by
  obtain ⟨h1, h2⟩ := h
  rcases h2 with ⟨h2, _⟩ | ⟨h2, _⟩ <;> omega
end Go.Proofs.YtedoeadhbcjjgaaDoor

/- Plain mathematics: a row by a rule. No program. -/
namespace Go.Proofs.YtedoeadhbcjjgaaDoor

def rsum (rule row : List Int) (at_ : Nat) : Nat → Int
  | 0 => 0
  | i + 1 => rsum rule row at_ i + rule.getD i 0 * row.getD (at_ - 1 - i) 0
def rowT (first rule : List Int) : Nat → List Int
  | 0 => first
  | m + 1 => rowT first rule m ++ [rsum rule (rowT first rule m) (first.length + m) rule.length]
def termZ (first rule : List Int) (n : Nat) : Int := (rowT first rule (n + 1 - first.length)).getD n 0

theorem rowT_length (first rule : List Int) : ∀ m, (rowT first rule m).length = first.length + m
  | 0 => rfl
  | m + 1 => by simp [rowT, rowT_length first rule m]; omega
theorem getD_app_lt {xs ys : List Int} {k : Nat} (h : k < xs.length) : (xs ++ ys).getD k 0 = xs.getD k 0 := by
  simp only [List.getD]; rw [List.getElem?_append_left h]
theorem getD_app_eq {xs : List Int} {y : Int} {k : Nat} (h : k = xs.length) : (xs ++ [y]).getD k 0 = y := by
  subst h; simp only [List.getD]; rw [List.getElem?_append_right (by omega), Nat.sub_self]; rfl
theorem rowT_more (first rule : List Int) {m k : Nat} (hk : k < first.length + m) : ∀ d, (rowT first rule (m + d)).getD k 0 = (rowT first rule m).getD k 0
  | 0 => rfl
  | d + 1 => by
    rw [← Nat.add_assoc, rowT, getD_app_lt (by rw [rowT_length]; omega)]
    exact rowT_more first rule hk d
theorem rowT_at (first rule : List Int) {m k : Nat} (hk : k < first.length + m) : (rowT first rule m).getD k 0 = termZ first rule k := by
  unfold termZ
  obtain ⟨d, hd⟩ : ∃ d, m = (k + 1 - first.length) + d := ⟨m - (k + 1 - first.length), by omega⟩
  rw [hd]
  exact rowT_more first rule (by omega) d
theorem rsum_congr {rule row row' : List Int} {at_ : Nat} : ∀ j, j ≤ at_ → (∀ k, k < at_ → row.getD k 0 = row'.getD k 0) → rsum rule row at_ j = rsum rule row' at_ j
  | 0, _, _ => rfl
  | j + 1, hj, h => by
    simp only [rsum]
    rw [rsum_congr j (by omega) h, h (at_ - 1 - j) (by omega)]
theorem termZ_first {first : List Int} (rule : List Int) {k : Nat} (hk : k < first.length) : termZ first rule k = first.getD k 0 := by
  unfold termZ; rw [show k + 1 - first.length = 0 by omega]; rfl
/-- Beyond the first numbers: the rule's sum. -/
def tsum (T : Nat → Int) (rule : List Int) (at_ : Nat) : Nat → Int
  | 0 => 0
  | i + 1 => tsum T rule at_ i + rule.getD i 0 * T (at_ - 1 - i)
theorem rsum_tsum {first rule : List Int} {m : Nat} (hl : first.length = rule.length) : ∀ j, j ≤ rule.length → rsum rule (rowT first rule m) (first.length + m) j = tsum (termZ first rule) rule (first.length + m) j
  | 0, _ => rfl
  | j + 1, hj => by
    simp only [rsum, tsum]
    rw [rsum_tsum hl j (by omega), rowT_at first rule (by omega)]
theorem termZ_step {first rule : List Int} (hl : first.length = rule.length) {k : Nat} (hk : first.length ≤ k) : termZ first rule k = tsum (termZ first rule) rule k rule.length := by
  obtain ⟨m, rfl⟩ : ∃ m, k = first.length + m := ⟨k - first.length, by omega⟩
  conv => lhs; unfold termZ
  rw [show first.length + m + 1 - first.length = m + 1 by omega, rowT, getD_app_eq (by rw [rowT_length]), rsum_tsum hl _ (Nat.le_refl _)]
theorem termZ_nil (n : Nat) : termZ [] [] n = 0 := by
  have h := termZ_step (first := []) (rule := []) rfl (k := n) (by simp)
  rw [h]; rfl
end Go.Proofs.YtedoeadhbcjjgaaDoor
