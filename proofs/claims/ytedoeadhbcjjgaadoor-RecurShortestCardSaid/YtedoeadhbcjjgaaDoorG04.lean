/- Joined by program (merge.py) out of 4 texts, a part of the proof: contracts of the functions that the statement reaches, and plain mathematics. No statement of the seat stands here. -/
import Derived.Test.YtedoeadhbcjjgaaDoorG03
import Derived.OwnWalk
import Derived.Outline
import Derived.BigQuiet
import Derived.Deep.QuietTactic
/- Laws for the walk: making and growing slices of whole numbers, in this seat's words. -/
namespace Go.Proofs.YtedoeadhbcjjgaaDoor
open Go.RowKit

theorem infoU : (Tryd.prog.info? 58).map (fun i => (i.zero, i.size, i.bytes)) = some (some (.int .u64 0), 1, 8) := by kernel_rfl
theorem infoI : (Tryd.prog.info? 2).map (fun i => (i.zero, i.size, i.bytes)) = some (some (.int .i64 0), 1, 8) := by kernel_rfl

/-- A fresh slice that reads as a number's limbs. -/
def OutU (w : World) (n : Nat) (e : Ending) (w' : World) : Prop := ∃ v', e = .returned v' ∧ OwU w' w.heap.size v' (limbs n) ∧ Fr [] w w'

theorem Fr.trans_own {a b c : World} {v : Value} {xs : List Nat} (h : Fr [] a b) (ho : OwU b a.heap.size v xs) (k : Fr v.ownBlock.toList b c) : Fr [] a c :=
  h.trans k (by intro x hx hlt; have := ho.lt (k := x) (by simpa using hx); omega)
theorem Fr.trans_ownI {a b c : World} {v : Value} {xs : List Int} (h : Fr [] a b) (ho : OwI b a.heap.size v xs) (k : Fr v.ownBlock.toList b c) : Fr [] a c :=
  h.trans k (by intro x hx hlt; have := ho.lt (k := x) (by simpa using hx); omega)
theorem OwU.alloc {w : World} {base : Nat} {v : Value} {xs : List Nat} (h : OwU w base v xs) (o : Obj) : OwU (w.alloc o) base v xs := h.keep0 ((Fr.refl [] w).alloc o)
theorem OwI.alloc {w : World} {base : Nat} {v : Value} {xs : List Int} (h : OwI w base v xs) (o : Obj) : OwI (w.alloc o) base v xs := h.keep0 ((Fr.refl [] w).alloc o)


section
variable {w : World} {ops : Array Oper} {rest : List Oper} {o : Oper} {a : Act} {Q : Exit → Act → World → Prop}

/-- 'make([]uint64, n)'. -/
theorem wp_makeU (hg : o.guard = none) (l c : Operand) (hop : o.op = Op.makeSlice 36 l c) (L C : Int) (n : Nat) (hl : a.eval l = .int .i64 L) (hc : a.eval c = .int .i64 C) (hL : L = (n : Int)) (hC : C = (n : Int))
    (hn : n ≤ 10000000000000) (base : Nat) (hb : base ≤ w.heap.size)
    (hK : ∀ w', OwU w' base (.slice (some ⟨w.heap.size, 0, none⟩) n n) (List.replicate n 0) → Fr [] w w' → w.heap.size < w'.heap.size → wpList Tryd.prog ops Q rest (a.put o.dst (.slice (some ⟨w.heap.size, 0, none⟩) n n)) w') :
    wpList Tryd.prog ops Q (o :: rest) a w := by
  obtain ⟨i0, hi, hz0, hz1, hz2⟩ := info_parts infoU
  refine wpList_make_full w hg l c 36 hop base 58 i0 (.int .u64 0) 1 Tryd.underlying36 hi hz0 hz1 _ _ L C n hl hc hL hC (by rw [hz2]; omega) (by unfold maxLen; omega) hb ?_
  intro w1 hown hgrow
  rw [madeU] at hown
  have h1 : OwU w1 base (.slice (some ⟨w.heap.size, 0, none⟩) n n) (List.replicate n 0) := ⟨Bd.replicate n, by simpa using hown⟩
  exact hK w1 h1 (Fr.of_grown hgrow) (hown.lt w.heap.size rfl).2
/-- 'make([]uint64, n, m)'. -/
theorem wp_makeU2 (hg : o.guard = none) (l c : Operand) (hop : o.op = Op.makeSlice 36 l c) (kl kc : IntKind) (L C : Int) (n m : Nat) (hl : a.eval l = .int kl L) (hc : a.eval c = .int kc C) (hL : L = (n : Int)) (hC : C = (m : Int))
    (hnm : n ≤ m) (hn : m ≤ 10000000000000) (base : Nat) (hb : base ≤ w.heap.size)
    (hK : ∀ w', OwU w' base (.slice (some ⟨w.heap.size, 0, none⟩) n m) (List.replicate n 0) → Fr [] w w' → w.heap.size < w'.heap.size → wpList Tryd.prog ops Q rest (a.put o.dst (.slice (some ⟨w.heap.size, 0, none⟩) n m)) w') :
    wpList Tryd.prog ops Q (o :: rest) a w := by
  obtain ⟨i0, hi, hz0, hz1, hz2⟩ := info_parts infoU
  refine wpList_plain hg fun K hK' => ?_
  have hrun := run_make (P := Tryd.prog) w 36 58 i0 (.int .u64 0) Tryd.underlying36 hi hz0 kl kc (n : Int) (m : Int) (by omega) (by omega) (by rw [hz2]; omega) (by omega)
  subst hL
  subst hC
  unfold Oper.wp
  simp only [Int.toNat_natCast] at hrun
  simp [execOp, hop, hl, hc, hrun, Result.andThen]
  refine hK' _ _ (hK _ ⟨Bd.replicate n, ?_⟩ ((Fr.refl [] w).alloc _) (by simp))
  rw [List.length_replicate, hz1]
  refine ⟨by simp [u64s], .inr ⟨w.heap.size, m, _, rfl, hb, heap_alloc_new w _, hnm, by unfold maxLen; omega, size_madeCells _ _, ?_⟩⟩
  rw [madeU, ← u64s_take]
  simp [Nat.min_eq_left hnm]

/-- 'make([]int64, n)'. -/
theorem wp_makeI (hg : o.guard = none) (l c : Operand) (hop : o.op = Op.makeSlice 22 l c) (L C : Int) (n : Nat) (hl : a.eval l = .int .i64 L) (hc : a.eval c = .int .i64 C) (hL : L = (n : Int)) (hC : C = (n : Int))
    (hn : n ≤ 10000000000000) (base : Nat) (hb : base ≤ w.heap.size)
    (hK : ∀ w', OwI w' base (.slice (some ⟨w.heap.size, 0, none⟩) n n) (List.replicate n 0) → Fr [] w w' → w.heap.size < w'.heap.size → wpList Tryd.prog ops Q rest (a.put o.dst (.slice (some ⟨w.heap.size, 0, none⟩) n n)) w') :
    wpList Tryd.prog ops Q (o :: rest) a w := by
  obtain ⟨i0, hi, hz0, hz1, hz2⟩ := info_parts infoI
  refine wpList_make_full w hg l c 22 hop base 2 i0 (.int .i64 0) 1 Tryd.underlying22 hi hz0 hz1 _ _ L C n hl hc hL hC (by rw [hz2]; omega) (by unfold maxLen; omega) hb ?_
  intro w1 hown hgrow
  rw [madeI] at hown
  have h1 : OwI w1 base (.slice (some ⟨w.heap.size, 0, none⟩) n n) (List.replicate n 0) := ⟨fun x hx => by rw [(List.mem_replicate.1 hx).2]; unfold Ri; omega, by simpa using hown⟩
  exact hK w1 h1 (Fr.of_grown hgrow) (hown.lt w.heap.size rfl).2

/-- 'append(v, ..)': what is appended lies in cells; v is nil or a row of the call's own. -/
theorem wp_appendU (hg : o.guard = none) (s x : Operand) (hop : o.op = Op.call { callee := Callee.builtin Builtin.append, args := #[s, x], argTypes := #[36, 36] })
    (base : Nat) (v : Value) (xs : List Nat) (hs : a.eval s = v) (hown : OwU w base v xs) (g off c : Nat) (news : List Nat) (hx : a.eval x = .slice (some ⟨g, off, none⟩) news.length c)
    (hc : ∀ j, j < news.length → w.cell? ⟨g, off + j, none⟩ = some (.int .u64 ((news.getD j 0 : Nat) : Int))) (hbn : Bd news) (hn : xs.length + news.length ≤ 10000000000000) (hb : base ≤ w.heap.size)
    (hK : ∀ v' w', OwU w' base v' (xs ++ news) → Fr v.ownBlock.toList w w' → (∀ k, v'.ownBlock = some k → base ≤ k) → (v' = .slice none 0 0 ↔ v = .slice none 0 0 ∧ news.length = 0) → wpList Tryd.prog ops Q rest (a.put o.dst v') w') :
    wpList Tryd.prog ops Q (o :: rest) a w := by
  obtain ⟨i0, hi, hz0, hz1, hz2⟩ := info_parts infoU
  refine wpList_append_own w hg s x 36 hop base 58 i0 (.int .u64 0) 1 8 Tryd.underlying36 hi hz0 hz1 hz2 rfl (by decide) v xs.length (u64s xs) hs hown.2 ⟨g, off, none⟩ news.length c (u64s news) hx (by simp [u64s]) ?_ (u64s_one news) (by unfold maxLen; omega) (by omega) hb ?_
  · intro j u hu
    have hj : j < news.length := by
      have := (List.getElem?_eq_some_iff.1 hu).1
      simpa [u64s] using this
    rw [Addr.add_lit, hc j hj, ← u64s_at hj, hu]
  · intro v' w1 hown' hgrow hnil
    rw [← u64s_append] at hown'
    have h1 : OwU w1 base v' (xs ++ news) := ⟨hown.1.append hbn, by simpa using hown'⟩
    exact hK v' w1 h1 (Fr.of_grown hgrow) (fun k hk => (hown'.lt k hk).1) hnil
theorem wp_appendI (hg : o.guard = none) (s x : Operand) (hop : o.op = Op.call { callee := Callee.builtin Builtin.append, args := #[s, x], argTypes := #[22, 22] })
    (base : Nat) (v : Value) (xs : List Int) (hs : a.eval s = v) (hown : OwI w base v xs) (g off c : Nat) (news : List Int) (hx : a.eval x = .slice (some ⟨g, off, none⟩) news.length c)
    (hc : ∀ j, j < news.length → w.cell? ⟨g, off + j, none⟩ = some (.int .i64 (news.getD j 0))) (hbn : ∀ y ∈ news, Ri y) (hn : xs.length + news.length ≤ 10000000000000) (hb : base ≤ w.heap.size)
    (hK : ∀ v' w', OwI w' base v' (xs ++ news) → Fr v.ownBlock.toList w w' → (∀ k, v'.ownBlock = some k → base ≤ k) → (v' = .slice none 0 0 ↔ v = .slice none 0 0 ∧ news.length = 0) → wpList Tryd.prog ops Q rest (a.put o.dst v') w') :
    wpList Tryd.prog ops Q (o :: rest) a w := by
  obtain ⟨i0, hi, hz0, hz1, hz2⟩ := info_parts infoI
  refine wpList_append_own w hg s x 22 hop base 2 i0 (.int .i64 0) 1 8 Tryd.underlying22 hi hz0 hz1 hz2 rfl (by decide) v xs.length (i64s xs) hs hown.2 ⟨g, off, none⟩ news.length c (i64s news) hx (by simp [i64s]) ?_ (i64s_one news) (by unfold maxLen; omega) (by omega) hb ?_
  · intro j u hu
    have hj : j < news.length := by
      have := (List.getElem?_eq_some_iff.1 hu).1
      simpa [i64s] using this
    rw [Addr.add_lit, hc j hj, ← i64s_at hj, hu]
  · intro v' w1 hown' hgrow hnil
    rw [← i64s_append] at hown'
    have h1 : OwI w1 base v' (xs ++ news) := ⟨fun y hy => by rcases List.mem_append.1 hy with h | h; exact hown.1 y h; exact hbn y h, by simpa using hown'⟩
    exact hK v' w1 h1 (Fr.of_grown hgrow) (fun k hk => (hown'.lt k hk).1) hnil
end

end Go.Proofs.YtedoeadhbcjjgaaDoor

/- big.trim, big.compare: walks. -/
namespace Go.Proofs.YtedoeadhbcjjgaaDoor
open Go.RowKit

/-- A trimmed list is a beginning of it. -/
theorem trimL_prefix (xs : List Nat) : trimL xs = xs.take (trimL xs).length := by
  induction xs with
  | nil => rfl
  | cons x xs ih =>
    rw [trimL_cons]; split
    · simp
    · simp; exact ih

def TrimPost (A : Option Addr) (c : Nat) (xs : List Nat) (w : World) (e : Ending) (w' : World) : Prop := e = .returned (.slice A (trimL xs).length c) ∧ w = w'

set_option maxHeartbeats 400000 in
theorem trim_core (A : Option Addr) (c : Nat) (xs : List Nat) (w : World) (h : SlU w (.slice A xs.length c) xs) (hl : xs.length ≤ 1000000000000) :
    Calls Tryd.prog 70 #[.slice A xs.length c] w (TrimPost A c xs w) := by
  obtain ⟨A', c', e, hc, hcell⟩ := h.open_
  clear h
  simp only [Value.slice.injEq, true_and] at e
  obtain ⟨rfl, rfl⟩ := e
  go_enter Tryd.func70, Tryd.ntmps70
  go_wp2
  go_loop [0] (fun l => ∃ n : Nat, n ≤ xs.length ∧ Hid (trimL (xs.take n) = trimL xs) ∧ l = .slice A n c) (fun l => match l with | .slice _ n _ => n | _ => 0)
  case atStart => exact ⟨_, Nat.le_refl _, Lib.hid (by rw [List.take_length]), rfl⟩
  case round =>
    obtain ⟨n, hn, ht, rfl⟩ := hrel
    by_cases hp : 0 < n
    · obtain ⟨b, o, rfl, hce⟩ := hcell (by omega)
      clear hcell
      have h1 := hce (n - 1) (by omega)
      by_cases h0 : xs.getD (n - 1) 0 = 0
      · rw [h0] at h1
        have h2 := trimL_take (xs := xs) (n := n - 1) (by omega) h0
        rw [show n - 1 + 1 = n by omega] at h2
        have H2 := Lib.hid h2
        clear h2 h0 hce
        go_wp2
        go_round
        case rel => exact ⟨n - 1, by omega, Lib.hid (H2.out.symm.trans ht.out), rfl⟩
        case measure => simp; omega
      · obtain ⟨x, hx⟩ : ∃ x, x = xs.getD (n - 1) 0 := ⟨_, rfl⟩
        rw [← hx] at h1 h0
        have h2 := trimL_take_last (xs := xs) (n := n - 1) (by omega) (by rw [← hx]; exact h0)
        rw [show n - 1 + 1 = n by omega, ht.out] at h2
        have H2 := Lib.hid h2
        have h3 : ((x : Int) == 0) = false := by simpa using h0
        clear h2 h0 hx hce
        go_wp2
        go_ret
        refine ⟨?_, rfl⟩
        rw [H2.out, List.length_take, Nat.min_eq_left hn]; rfl
    · have hz : n = 0 := by omega
      subst hz
      have H2 := Lib.hid (ht.out.symm.trans (by rw [List.take_zero]; rfl) : trimL xs = [])
      go_wp2
      go_ret
      exact ⟨by rw [H2.out]; rfl, rfl⟩

/-- What 'trim' tells of a slice that is read. -/
def TrimSl (w : World) (xs : List Nat) (e : Ending) (w' : World) : Prop := ∃ v', e = .returned v' ∧ SlU w v' (trimL xs) ∧ w = w'
theorem trim_sl (v : Value) (xs : List Nat) (w : World) (h : SlU w v xs) (hl : xs.length ≤ 1000000000000) : Calls Tryd.prog 70 #[v] w (TrimSl w xs) := by
  obtain ⟨A, c, rfl, _⟩ := h.open_
  refine (trim_core A c xs w h hl).mono ?_
  rintro e w' ⟨rfl, rfl⟩
  refine ⟨_, rfl, ?_, rfl⟩
  have := h.prefix_ (trimL_length xs)
  rwa [← trimL_prefix] at this
/-- .. of a row of the call's own. -/
def TrimOw (w : World) (base : Nat) (v : Value) (xs : List Nat) (e : Ending) (w' : World) : Prop := ∃ v', e = .returned v' ∧ OwU w base v' (trimL xs) ∧ v'.ownBlock = v.ownBlock ∧ w = w'
theorem trim_ow (base : Nat) (v : Value) (xs : List Nat) (w : World) (h : OwU w base v xs) (hl : xs.length ≤ 1000000000000) : Calls Tryd.prog 70 #[v] w (TrimOw w base v xs) := by
  obtain ⟨A, c, rfl, _⟩ := h.sl.open_
  refine (trim_core A c xs w h.sl hl).mono ?_
  rintro e w' ⟨rfl, rfl⟩
  refine ⟨_, rfl, ?_, by cases A <;> rfl, rfl⟩
  have := h.prefix_ (trimL_length xs)
  rwa [← trimL_prefix] at this

/-! ### compare -/
/-- -1, 0, 1. -/
def cmpI (a b : Nat) : Int := if a < b then -1 else if b < a then 1 else 0
def CmpPost (a b : Nat) (w : World) (e : Ending) (w' : World) : Prop := e = .returned (.int .i64 (cmpI a b)) ∧ ∃ n, w' = w.drewN n
theorem cmpI_lt {a b : Nat} (h : a < b) : cmpI a b = -1 := by simp [cmpI, h]
theorem cmpI_gt {a b : Nat} (h : b < a) : cmpI a b = 1 := by unfold cmpI; rw [if_neg (by omega), if_pos h]
theorem cmpI_eq (a : Nat) : cmpI a a = 0 := by simp [cmpI]

set_option maxHeartbeats 1000000 in
theorem compare_any (va vb : Value) (a b : Nat) (w : World) (ha : SlU w va (limbs a)) (hb : SlU w vb (limbs b)) (hla : (limbs a).length ≤ 1000000000000) (hlb : (limbs b).length ≤ 1000000000000) :
    Calls Tryd.prog 53 #[va, vb] w (CmpPost a b w) := by
  obtain ⟨A, ca, rfl, hca, hcella⟩ := ha.open_
  obtain ⟨B, cb, rfl, hcb, hcellb⟩ := hb.open_
  have hda := ha.bd
  have hdb := hb.bd
  have va := val_limbs a
  have vb := val_limbs b
  have L1 := @limbs_length_lt a b
  have L2 := @limbs_length_lt b a
  clear ha hb
  generalize limbs a = xs at *
  generalize limbs b = ys at *
  have VA := Lib.hid va
  have VB := Lib.hid vb
  clear va vb
  rcases Nat.lt_trichotomy xs.length ys.length with hl | hl | hl
  · have H := Lib.hid (cmpI_lt (L1 hl))
    clear L1 L2 hcella hcellb
    have hl0 : decide (xs.length < ys.length) = true := by simpa using hl
    go_enter Tryd.func53, Tryd.ntmps53
    go_wp2
    go_ret
    exact ⟨by rw [H.out]; rfl, 0, rfl⟩
  · have L := Lib.hid hl
    clear L1 L2
    obtain ⟨m, hm⟩ : ∃ m, m = xs.length := ⟨_, rfl⟩
    have hm2 : ys.length = m := by omega
    rw [← hm] at hcella hla ⊢
    rw [hm2] at hcellb hlb ⊢
    have HM := Lib.hid hm
    have HM2 := Lib.hid hm2
    clear hl hm hm2 hca hcb
    go_enter Tryd.func53, Tryd.ntmps53
    go_wp2
    go_loopw [5] (fun i wr => ∃ n : Nat, n ≤ m ∧ Hid (xs.drop n = ys.drop n) ∧ i = .int .i64 ((n : Int) - 1) ∧ Hid (∃ q, wr = w.drewN q)) (fun i _ => ((intOf i) + 1).toNat)
    case atStart => exact ⟨m, Nat.le_refl _, Lib.hid (by rw [List.drop_of_length_le (by rw [HM.out]; exact Nat.le_refl _), List.drop_of_length_le (by rw [HM2.out]; exact Nat.le_refl _)]), rfl, Lib.hid ⟨0, rfl⟩⟩
    case round =>
      obtain ⟨n, hn, hd, rfl, hq⟩ := hrel
      obtain ⟨q, rfl⟩ := hq.out
      clear hq
      by_cases hp : 0 < n
      · obtain ⟨ba, oa, rfl, hce1⟩ := hcella (by omega)
        obtain ⟨bb, ob, rfl, hce2⟩ := hcellb (by omega)
        clear hcella hcellb
        obtain ⟨k, rfl⟩ : ∃ k, n = k + 1 := ⟨n - 1, by omega⟩
        have h1 := hce1 k (by omega)
        have h2 := hce2 k (by omega)
        obtain ⟨x, hx⟩ : ∃ x, x = xs.getD k 0 := ⟨_, rfl⟩
        obtain ⟨y, hy⟩ : ∃ y, y = ys.getD k 0 := ⟨_, rfl⟩
        rw [← hx] at h1
        rw [← hy] at h2
        have HX := Lib.hid hx
        have HY := Lib.hid hy
        clear hx hy hce1 hce2
        have e1 : (((k + 1 : Nat) : Int) - 1) = (k : Int) := by omega
        rw [e1]
        clear e1
        rcases Nat.lt_trichotomy x y with hxy | hxy | hxy
        · have h3 : ((x : Int) != (y : Int)) = true := by rw [bne_iff_ne]; omega
          have h4 : decide (x < y) = true := by simpa using hxy
          go_wp2
          go_quiet (fail)
          go_wp2
          go_quiet (fail)
          go_wp2
          go_ret
          refine ⟨?_, _, by simp only [World.drewN_drewN]; rfl⟩
          rw [cmpI_lt]
          · rfl
          rw [← VA.out, ← VB.out]
          exact val_lt_of_limb hda k hd.out (by rw [← HM.out, HM2.out]) (by rw [← HM.out]; omega) (by rw [← HX.out, ← HY.out]; exact hxy)
        · have h3 : ((x : Int) != (y : Int)) = false := by rw [bne_eq_false_iff_eq]; omega
          have HXY := Lib.hid hxy
          clear hxy
          go_wp2
          go_quiet (fail)
          go_wp2
          go_roundw
          case rel =>
            refine ⟨k, by omega, Lib.hid ?_, rfl, Lib.hid ⟨_, rfl⟩⟩
            rw [List.drop_eq_getElem_cons (by rw [← HM.out]; omega), List.drop_eq_getElem_cons (l := ys) (by rw [HM2.out]; omega), hd.out]
            congr 1
            rw [← getD_eq, ← getD_eq, ← HX.out, ← HY.out, HXY.out]
          case measure => simp [intOf]
        · have h3 : ((x : Int) != (y : Int)) = true := by rw [bne_iff_ne]; omega
          have h4 : decide (x < y) = false := by simp; omega
          go_wp2
          go_quiet (fail)
          go_wp2
          go_quiet (fail)
          go_wp2
          go_ret
          refine ⟨?_, _, by simp only [World.drewN_drewN]; rfl⟩
          rw [cmpI_gt]
          · rfl
          rw [← VA.out, ← VB.out]
          exact val_lt_of_limb hdb k hd.out.symm (by rw [← HM.out, HM2.out]) (by rw [HM2.out]; omega) (by rw [← HX.out, ← HY.out]; exact hxy)
      · have hz : n = 0 := by omega
        subst hz
        go_wp2
        go_ret
        refine ⟨?_, _, rfl⟩
        have : xs = ys := by simpa using hd.out
        rw [← VA.out, ← VB.out, this, cmpI_eq]; rfl
  · have H := Lib.hid (cmpI_gt (L2 hl))
    clear L1 L2 hcella hcellb
    have hl0 : decide (xs.length < ys.length) = false := by simp; omega
    have hl1 : decide (ys.length < xs.length) = true := by simpa using hl
    go_enter Tryd.func53, Tryd.ntmps53
    go_wp2
    go_ret
    exact ⟨by rw [H.out]; rfl, 0, rfl⟩

end Go.Proofs.YtedoeadhbcjjgaaDoor

/- big.plus: the walk. -/
namespace Go.Proofs.YtedoeadhbcjjgaaDoor
open Go.RowKit

set_option maxRecDepth 100000 in
set_option maxHeartbeats 2000000 in
theorem plus_core (sw : Bool) (A B : Option Addr) (ca cb : Nat) (xs ys : List Nat) (w : World) (ha : SlU w (.slice A xs.length ca) xs) (hb : SlU w (.slice B ys.length cb) ys) (hl : xs.length ≤ 100000000000)
    (hle : ys.length ≤ xs.length) (hsw : sw = true → ys.length < xs.length) :
    Calls Tryd.prog 57 (if sw = true then #[.slice B ys.length cb, .slice A xs.length ca] else #[.slice A xs.length ca, .slice B ys.length cb]) w (OutU w (val xs + val ys)) := by
  have HSA := Lib.hid ha
  have HSB := Lib.hid hb
  clear ha hb
  have hd2 : decide (xs.length < ys.length) = false := by simp; omega
  obtain ⟨la, hla⟩ : ∃ la, la = xs.length := ⟨_, rfl⟩
  obtain ⟨lb, hlb⟩ : ∃ lb, lb = ys.length := ⟨_, rfl⟩
  have HLA := Lib.hid hla
  have HLB := Lib.hid hlb
  have hd3 : sw = true → decide (lb < la) = true := by intro h; have := hsw h; simp; omega
  rw [← hla] at hl hle hd2 ⊢
  rw [← hlb] at hle hd2 ⊢
  clear hla hlb hsw
  cases sw
  case' true => have hd4 := hd3 rfl
  all_goals
    clear hd3
    simp only [if_true, if_false, Bool.false_eq_true]
    go_enter Tryd.func57, Tryd.ntmps57
    go_wp2_with (at_make; refine wp_makeU rfl _ _ rfl _ _ (la + 1) rfl rfl (by omega) (by omega) (by omega) w.heap.size (Nat.le_refl _) ?_; intro w1 hown hgrow hsz; have HO := Lib.hid hown; have HG := Lib.hid hgrow; clear hown hgrow)
    go_loopw [6, 23] (fun cy i wr => ∃ (k c : Nat) (zs : List Nat), k ≤ la ∧ c ≤ 1 ∧ cy = .int .u64 (c : Int) ∧ i = .int .i64 (k : Int) ∧ Hid (zs.length = la + 1) ∧ Hid (OwU wr w.heap.size (.slice (some ⟨w.heap.size, 0, none⟩) (la + 1) (la + 1)) zs) ∧ Hid (Fr [] w wr) ∧
        Hid (val (zs.take k) + BW ^ k * c = val (xs.take k) + val (ys.take k))) (fun _ i _ => la - (intOf i).toNat)
    case atStart => exact ⟨0, 0, List.replicate (la + 1) 0, by omega, by omega, rfl, rfl, Lib.hid (by simp), HO, HG, Lib.hid (by simp [val])⟩
    case round =>
      obtain ⟨k, c, zs, hk, hc, rfl, rfl, HZ, HO1, HG1, HV⟩ := hrel
      clear HO HG
      by_cases hlt : k < la
      · have hsa := HSA.out.keep0 HG1.out
        have hsb := HSB.out.keep0 HG1.out
        obtain ⟨A', c', e, _, hcella⟩ := hsa.open_
        rw [← HLA.out] at e hcella
        simp only [Value.slice.injEq, true_and] at e
        obtain ⟨rfl, rfl⟩ := e
        obtain ⟨B', c', e, _, hcellb⟩ := hsb.open_
        rw [← HLB.out] at e hcellb
        simp only [Value.slice.injEq, true_and] at e
        obtain ⟨rfl, rfl⟩ := e
        obtain ⟨ba, oa, rfl, hce1⟩ := hcella (by omega)
        have h1 := hce1 k hlt
        obtain ⟨x, hx⟩ : ∃ x, x = xs.getD k 0 := ⟨_, rfl⟩
        rw [← hx] at h1
        have hxb : x < BW := by rw [hx]; exact hsa.bd.getD k
        clear hce1 hcella
        have hown := HO1.out
        rw [← HZ.out] at hown
        obtain ⟨_, _, e, _, hgl, _, _, hfz⟩ := hown.at_ (by rw [HZ.out]; omega)
        simp only [Value.slice.injEq, Option.some.injEq, Addr.mk.injEq, and_true, true_and] at e
        obtain ⟨rfl, _⟩ := e
        have hf := hfz k
        have hcel := (hown.at_ (by rw [HZ.out]; omega))
        have hcl : ∃ q, wr.cell? ⟨w.heap.size, k, none⟩ = some q := by
          obtain ⟨g, c, e, _, _, _, h, _⟩ := hcel
          simp only [Value.slice.injEq, Option.some.injEq, Addr.mk.injEq, and_true, true_and] at e
          obtain ⟨rfl, _⟩ := e
          exact ⟨_, h k (by rw [HZ.out]; omega)⟩
        obtain ⟨q, hq⟩ := hcl
        clear hcel hfz hown hsa hsb
        have HXB := Lib.hid hxb
        have HX := Lib.hid hx
        clear hx hxb
        have hstep : ∀ y, y < BW → y = ys.getD k 0 → addC x y c ≤ 1 ∧ OwU (wr.setCell ⟨w.heap.size, k, none⟩ (.int .u64 ((addS x y c : Nat) : Int))) w.heap.size (.slice (some ⟨w.heap.size, 0, none⟩) (la + 1) (la + 1)) (zs.set k (addS x y c)) ∧
            Fr [] w (wr.setCell ⟨w.heap.size, k, none⟩ (.int .u64 ((addS x y c : Nat) : Int))) ∧ val ((zs.set k (addS x y c)).take (k + 1)) + BW ^ (k + 1) * addC x y c = val (xs.take (k + 1)) + val (ys.take (k + 1)) := by
          intro y hy hyy
          have h := HO1.out
          rw [← HZ.out] at h
          refine ⟨addC_le HXB.out hy hc, ?_, HG1.out.setCell (by simp) _, ?_⟩
          · have := h.store k (addS x y c) (addS_lt _ _ _)
            rw [HZ.out] at this; exact this
          · rw [val_set_take (by rw [HZ.out]; omega), val_take_succ, val_take_succ, ← HX.out, ← hyy, Nat.pow_succ]
            exact plus_step (add_eq x y c) HV.out
        by_cases hlt2 : k < lb
        · obtain ⟨bb, ob, rfl, hce2⟩ := hcellb (by omega)
          have h2 := hce2 k hlt2
          obtain ⟨y, hy⟩ : ∃ y, y = ys.getD k 0 := ⟨_, rfl⟩
          rw [← hy] at h2
          obtain ⟨hc', hst⟩ := hstep y (by rw [hy]; exact HSB.out.bd.getD k) hy
          have HST := Lib.hid hst
          have hadd := fun W => add64_run x y c hc W
          clear hce2 hcellb hstep hst hy
          go_wp2
          go_roundw
          case rel => exact ⟨k + 1, addC x y c, _, by omega, hc', rfl, by go_num, Lib.hid (by rw [List.length_set]; exact HZ.out), Lib.hid HST.out.1, Lib.hid HST.out.2.1, Lib.hid HST.out.2.2⟩
          case measure => simp [intOf]; omega
        · obtain ⟨hc', hst⟩ := hstep 0 BW_pos (by rw [getD_ge]; rw [← HLB.out]; omega)
          have HST := Lib.hid hst
          have hadd : ∀ W, (callFunc 77 #[.int .u64 (x : Int), .int .u64 0, .int .u64 (c : Int)]).run Tryd.prog W = .ok (.value (.tuple #[.int .u64 ((addS x 0 c : Nat) : Int), .int .u64 ((addC x 0 c : Nat) : Int)])) W := fun W => add64_run x 0 c hc W
          clear hcellb hstep hst
          go_wp2
          go_roundw
          case rel => exact ⟨k + 1, addC x 0 c, _, by omega, hc', rfl, by go_num, Lib.hid (by rw [List.length_set]; exact HZ.out), Lib.hid HST.out.1, Lib.hid HST.out.2.1, Lib.hid HST.out.2.2⟩
          case measure => simp [intOf]; omega
      · have hkk : k = la := by omega
        subst hkk
        have hown := HO1.out
        rw [← HZ.out] at hown
        obtain ⟨g, _, e, _, _, _, hcel, hfz⟩ := hown.at_ (by rw [HZ.out]; omega)
        simp only [Value.slice.injEq, Option.some.injEq, Addr.mk.injEq, and_true, true_and] at e
        obtain ⟨rfl, _⟩ := e
        have hq := hcel k (by rw [HZ.out]; omega)
        have hf := hfz k
        have hs := hown.store k c (by have := BW_two; omega)
        rw [HZ.out] at hs
        have HS := Lib.hid hs
        have HF := Lib.hid (HG1.out.setCell (p := ⟨w.heap.size, k, none⟩) (by simp) (.int .u64 (c : Int)))
        have hval : val (zs.set k c) = val xs + val ys := by
          have h1 := val_set_take (xs := zs) (k := k) (s := c) (by rw [HZ.out]; omega)
          rw [List.take_of_length_le (by rw [List.length_set, HZ.out]; omega)] at h1
          rw [h1, HV.out, List.take_of_length_le (by rw [HLA.out]; omega), List.take_of_length_le (by rw [← HLB.out]; omega)]
        have HVV := Lib.hid hval
        have hlen : (zs.set k c).length = k + 1 := by rw [List.length_set]; exact HZ.out
        have HLL := Lib.hid hlen
        obtain ⟨qv, hqv⟩ : ∃ qv, qv = ((zs.getD k 0 : Nat) : Int) := ⟨_, rfl⟩
        rw [← hqv] at hq
        clear hqv hs hcel hfz hown hval hlen
        go_wp2_with (go_at_call 70; refine (trim_ow w.heap.size _ (zs.set k c) _ ?hown (by rw [HLL.out]; omega)).mono ?_)
        case hown => exact HS.out
        rintro e w2 ⟨v', rfl, ho, _, rfl⟩
        have HO2 := Lib.hid ho
        clear ho
        go_wp2
        go_ret
        refine ⟨_, rfl, ?_, HF.out⟩
        rw [← HVV.out, limbs_val HS.out.1]
        exact HO2.out

/-- 'plus' of two numbers' limbs is the sum's. -/
theorem plus_any (va vb : Value) (a b : Nat) (w : World) (ha : SlU w va (limbs a)) (hb : SlU w vb (limbs b)) (hla : (limbs a).length ≤ 100000000000) (hlb : (limbs b).length ≤ 100000000000) :
    Calls Tryd.prog 57 #[va, vb] w (OutU w (a + b)) := by
  obtain ⟨A, ca, rfl, _⟩ := ha.open_
  obtain ⟨B, cb, rfl, _⟩ := hb.open_
  rcases Nat.lt_or_ge (limbs a).length (limbs b).length with h | h
  · have := plus_core true B A cb ca (limbs b) (limbs a) w hb ha hlb (by omega) (fun _ => h)
    rw [val_limbs, val_limbs, Nat.add_comm] at this
    simpa using this
  · have := plus_core false A B ca cb (limbs a) (limbs b) w ha hb hla h (by simp)
    rw [val_limbs, val_limbs] at this
    simpa using this

end Go.Proofs.YtedoeadhbcjjgaaDoor

/- big.less: the walk. -/
namespace Go.Proofs.YtedoeadhbcjjgaaDoor
open Go.RowKit

set_option maxRecDepth 100000 in
set_option maxHeartbeats 2000000 in
theorem less_any (va vb : Value) (a b : Nat) (w : World) (ha : SlU w va (limbs a)) (hb : SlU w vb (limbs b)) (hl : (limbs a).length ≤ 100000000000) (hle : b ≤ a) :
    Calls Tryd.prog 58 #[va, vb] w (OutU w (a - b)) := by
  have hLe := limbs_length_mono hle
  obtain ⟨A, ca, rfl, _⟩ := ha.open_
  obtain ⟨B, cb, rfl, _⟩ := hb.open_
  have HSA := Lib.hid ha
  have HSB := Lib.hid hb
  have HVA := Lib.hid (val_limbs a)
  have HVB := Lib.hid (val_limbs b)
  clear ha hb
  generalize limbs a = xs at *
  generalize limbs b = ys at *
  obtain ⟨la, hla⟩ : ∃ la, la = xs.length := ⟨_, rfl⟩
  obtain ⟨lb, hlb⟩ : ∃ lb, lb = ys.length := ⟨_, rfl⟩
  rw [← hla] at hl hLe HSA ⊢
  rw [← hlb] at hLe HSB ⊢
  have HLA := Lib.hid hla
  have HLB := Lib.hid hlb
  have HLE := Lib.hid hle
  clear hla hlb hle
  go_enter Tryd.func58, Tryd.ntmps58
  go_wp2_with (at_make; refine wp_makeU rfl _ _ rfl _ _ la rfl rfl (by omega) (by omega) (by omega) w.heap.size (Nat.le_refl _) ?_; intro w1 hown hgrow hsz; have HO := Lib.hid hown; have HG := Lib.hid hgrow; clear hown hgrow)
  go_loopw [6, 15] (fun cy i wr => ∃ (k c : Nat) (zs : List Nat), k ≤ la ∧ c ≤ 1 ∧ cy = .int .u64 (c : Int) ∧ i = .int .i64 (k : Int) ∧ Hid (RowU wr w.heap.size w.heap.size la zs) ∧ Hid (Fr [] w wr) ∧
      Hid (val (zs.take k) + val (ys.take k) = val (xs.take k) + BW ^ k * c)) (fun _ i _ => la - (intOf i).toNat)
  case atStart => exact ⟨0, 0, List.replicate la 0, by omega, by omega, rfl, rfl, Lib.hid ⟨by simp, HO.out⟩, HG, Lib.hid (by simp [val])⟩
  case round =>
    obtain ⟨k, c, zs, hk, hc, rfl, rfl, HO1, HG1, HV⟩ := hrel
    clear HO HG
    by_cases hlt : k < la
    · obtain ⟨ba, oa, rfl, h1⟩ := (HSA.out.keep0 HG1.out).get hlt
      obtain ⟨x, hx⟩ : ∃ x, x = xs.getD k 0 := ⟨_, rfl⟩
      rw [← hx] at h1
      have HXB : Hid (x < BW) := Lib.hid (by rw [hx]; exact HSA.out.bd.getD k)
      have hq := HO1.out.cell hlt
      have hf := HO1.out.frozen (by omega) k
      obtain ⟨q, hq'⟩ : ∃ q : Int, q = ((zs.getD k 0 : Nat) : Int) := ⟨_, rfl⟩
      rw [← hq'] at hq
      have HX := Lib.hid hx
      clear hx hq'
      have hstep : ∀ y, y < BW → y = ys.getD k 0 → RowU (wr.setCell ⟨w.heap.size, k, none⟩ (.int .u64 ((subS x y c : Nat) : Int))) w.heap.size w.heap.size la (zs.set k (subS x y c)) ∧
          Fr [] w (wr.setCell ⟨w.heap.size, k, none⟩ (.int .u64 ((subS x y c : Nat) : Int))) ∧ val ((zs.set k (subS x y c)).take (k + 1)) + val (ys.take (k + 1)) = val (xs.take (k + 1)) + BW ^ (k + 1) * subB x y c := by
        intro y hy hyy
        refine ⟨HO1.out.store k _ (subS_lt _ _ _), HG1.out.setCell (by simp) _, ?_⟩
        rw [val_set_take (by rw [HO1.out.1]; omega), val_take_succ, val_take_succ, ← HX.out, ← hyy, Nat.pow_succ]
        exact minus_step (sub_eq HXB.out hy hc) HV.out
      by_cases hlt2 : k < lb
      · obtain ⟨bb, ob, rfl, h2⟩ := (HSB.out.keep0 HG1.out).get hlt2
        obtain ⟨y, hy⟩ : ∃ y, y = ys.getD k 0 := ⟨_, rfl⟩
        rw [← hy] at h2
        have HST := Lib.hid (hstep y (by rw [hy]; exact HSB.out.bd.getD k) hy)
        have hsub := fun W => sub64_run x y c hc W
        have hc' := subB_le x y c
        clear hstep hy
        go_wp2
        go_roundw
        case rel => exact ⟨k + 1, subB x y c, _, by omega, hc', rfl, by go_num, Lib.hid HST.out.1, Lib.hid HST.out.2.1, Lib.hid HST.out.2.2⟩
        case measure => simp [intOf]; omega
      · have HST := Lib.hid (hstep 0 BW_pos (by rw [getD_ge]; rw [← HLB.out]; omega))
        have hsub : ∀ W, (callFunc 79 #[.int .u64 (x : Int), .int .u64 0, .int .u64 (c : Int)]).run Tryd.prog W = .ok (.value (.tuple #[.int .u64 ((subS x 0 c : Nat) : Int), .int .u64 ((subB x 0 c : Nat) : Int)])) W := fun W => sub64_run x 0 c hc W
        have hc' := subB_le x 0 c
        clear hstep
        go_wp2
        go_roundw
        case rel => exact ⟨k + 1, subB x 0 c, _, by omega, hc', rfl, by go_num, Lib.hid HST.out.1, Lib.hid HST.out.2.1, Lib.hid HST.out.2.2⟩
        case measure => simp [intOf]; omega
    · have hkk : k = la := by omega
      subst hkk
      have hval : val zs = a - b := by
        have h1 := HV.out
        have h2 := HO1.out.1
        rw [List.take_of_length_le (by omega), List.take_of_length_le (by rw [← HLB.out]; omega), List.take_of_length_le (by rw [← HLA.out]; omega), HVA.out, HVB.out] at h1
        have h3 := val_lt HO1.out.2.1
        rw [h2] at h3
        have h4 := HLE.out
        have : c = 0 := by
          rcases Nat.eq_zero_or_pos c with h | h
          · exact h
          · have h5 : BW ^ k ≤ BW ^ k * c := Nat.le_mul_of_pos_right _ h
            omega
        subst this
        omega
      have HVV := Lib.hid hval
      have hz : Hid (zs.length = k) := Lib.hid HO1.out.1
      clear hval
      go_wp2_with (go_at_call 70; refine (trim_ow w.heap.size _ zs _ HO1.out.2 (by rw [hz.out]; omega)).mono ?_)
      rintro e w2 ⟨v', rfl, ho, _, rfl⟩
      have HO2 := Lib.hid ho
      clear ho
      go_wp2
      go_ret
      refine ⟨_, rfl, ?_, HG1.out⟩
      rw [← HVV.out, limbs_val HO1.out.2.1]
      exact HO2.out
end Go.Proofs.YtedoeadhbcjjgaaDoor
