/- Joined by program (merge.py) out of 3 texts, a part of the proof: contracts of the functions that the statement reaches, and plain mathematics. No statement of the seat stands here. -/
import Derived.Test.YtedoeadhbcjjgaaDoorG13
import Derived.Test.YtedoeadhbcjjgaaDoorG01
import Derived.Maps.AppendAt
import Derived.Test.YtedoeadhbcjjgaaDoorG10
/- rosettelaw25.goes. -/
namespace Go.Proofs.YtedoeadhbcjjgaaDoor
open Go.RowKit

theorem tmod_facts (x : Int) {p : Nat} (hp : 1 < p) : -(p : Int) < x.tmod p ∧ x.tmod p < p ∧ (x.tmod p + p).tmod p = x % p := by
  have h2 : (x.tmod p).natAbs = x.natAbs % p := Int.natAbs_tmod x p
  have h3 := Nat.mod_lt x.natAbs (show 0 < p by omega)
  refine ⟨by omega, by omega, ?_⟩
  rw [Int.tmod_eq_emod_of_nonneg (by omega), Int.add_emod_right]
  exact Int.emod_eq_emod_iff_emod_sub_eq_zero.2 (by
    have h4 := Int.tmod_add_mul_tdiv x p
    have h5 : x.tmod p - x = (p : Int) * (-(x.tdiv p)) := by rw [Int.mul_neg]; omega
    rw [h5]; exact Int.mul_emod_right _ _)

/-- What 'goes' tells. -/
def GoesPost (zs : List Int) (w : World) (e : Ending) (w' : World) : Prop := ∃ v', e = .returned v' ∧ OwI w' w.heap.size v' zs ∧ Fr [] w w'

set_option maxRecDepth 100000 in
set_option maxHeartbeats 8000000 in
theorem goes_any (va vb : Value) (first rule : List Int) (n p : Nat) (w : World) (ha : SlI w va first) (hb : SlI w vb rule) (hn : n ≤ 100000) (hl : rule.length ≤ 100000) (hf : min n rule.length ≤ first.length) (hp : 1 < p) (hpb : p < 2147483648) :
    Calls Tryd.prog 6 #[va, vb, .int .i64 (n : Int), .int .i64 (p : Int)] w (GoesPost (goesL first rule p n) w) := by
  obtain ⟨A, ca, rfl, hca, hxa⟩ := ha.open_
  obtain ⟨B, cb, rfl, hcb, hxb⟩ := hb.open_
  have HA := Lib.hid ha
  have HB := Lib.hid hb
  obtain ⟨m, hm⟩ : ∃ m, m = rule.length := ⟨_, rfl⟩
  obtain ⟨f, hfd⟩ : ∃ f, f = first.length := ⟨_, rfl⟩
  rw [← hm] at hl hf hcb hxb HB ⊢
  rw [← hfd] at hf hca hxa HA ⊢
  have HXA := Lib.hid hxa
  have HXB := Lib.hid hxb
  have HM := Lib.hid hm
  have hp0 : ((p : Int) == 0) = false := by simp; omega
  clear ha hb hxa hxb hm hfd
  go_enter Tryd.func6, Tryd.ntmps6
  go_wp2_with fail
  go_loopw [9, 10] (fun lv iv wr => ∃ i : Nat, i ≤ n ∧ iv = .int .i64 (i : Int) ∧ Hid (OwI wr w.heap.size lv (goesL first rule p i)) ∧ Hid (Fr [] w wr)) (fun _ iv _ => n - (intOf iv).toNat)
  case atStart => exact ⟨0, by omega, rfl, Lib.hid (OwI_nil _ _), Lib.hid (Fr.refl _ _)⟩
  case round =>
    obtain ⟨i, hi, rfl, HO, HF⟩ := hrel
    by_cases hin : i = n
    · subst hin
      go_wp2
      go_ret
      exact ⟨_, rfl, HO.out, HF.out⟩
    · have hi2 : i < n := by omega
      have hgl := goesL_length first rule (p : Int) i
      have hgr := goesL_range first rule (p := (p : Int)) (by omega) i
      have HGL := Lib.hid (And.intro hgl hgr)
      have hsz := HF.out.size
      clear hgl hgr
      by_cases him : i < m
      · have hif : i < f := by omega
        obtain ⟨b, o, rfl, hx2⟩ := HXA.out (by omega)
        have hcx := hx2 i hif
        obtain ⟨x, hx⟩ : ∃ x, x = first.getD i 0 := ⟨_, rfl⟩
        rw [← hx] at hcx
        have hcx2 : wr.cell? ⟨b, o + i, none⟩ = some (.int .i64 x) := (HF.out.cell (World.block_lt_of_cell? w _ hcx) (by simp)).trans hcx
        obtain ⟨h1, h2, h3⟩ := tmod_facts x hp
        have hst : goesStep first rule p (goesL first rule p i) i = x % p := by unfold goesStep; rw [if_pos (by rw [← HM.out]; exact him), hx]
        have HST := Lib.hid hst
        obtain ⟨r, hr⟩ : ∃ r, r = x.tmod p := ⟨_, rfl⟩
        obtain ⟨y, hy⟩ : ∃ y, y = x % p := ⟨_, rfl⟩
        rw [← hr] at h1 h2 h3
        rw [← hy] at h3 HST
        have e1 : x.tmod (p : Int) = r := hr.symm
        have e2 : IntKind.i64.wrap (r + p) = r + p := IntWalk.i64_in _ (by omega)
        have hyr : Ri y := by have h4 := Int.emod_nonneg x (show (p : Int) ≠ 0 by omega); have h5 := Int.emod_lt_of_pos x (show (0 : Int) < p by omega); unfold Ri; omega
        have HYR := Lib.hid hyr
        clear hx hcx hx2 hst hr hy hyr
        go_wp2_with (at_builtin; refine wp_appendI rfl _ _ rfl w.heap.size u9 (goesL first rule p i) rfl (HO.out.alloc _) wr.heap.size 0 1 [y] rfl (by intro j hj; match j, hj with | 0, _ => simp [World.cell?_alloc_new]) (by intro z hz; simp at hz; subst hz; exact HYR.out) (by rw [HGL.out.1]; simp; omega) (by simp; omega) ?_; intro v' w2 ho hfr _ _; have HO2 := Lib.hid ho; have HF2 : Hid (Fr [] w w2) := Lib.hid ((HF.out.alloc _).trans_ownI (HO.out.alloc _) hfr); clear ho hfr)
        go_roundw
        case rel => exact ⟨i + 1, by omega, by go_num, Lib.hid (by have h := HO2.out; rw [← HST.out] at h; exact h), HF2⟩
        case measure => simp [intOf]; omega
      · have hmi : m ≤ i := by omega
        have hst : goesStep first rule p (goesL first rule p i) i = sumK rule p (goesL first rule p i) i m := by unfold goesStep; rw [if_neg (by rw [← HM.out]; exact him), ← HM.out]
        have HST := Lib.hid hst
        clear hst
        go_wp2_with fail
        go_loopw [11, 12] (fun sv kv wi => ∃ k : Nat, k ≤ m ∧ kv = .int .i64 (k : Int) ∧ sv = .int .i64 (sumK rule p (goesL first rule p i) i k) ∧ Hid (∃ q, wi = wr.drewN q)) (fun _ kv _ => m - (intOf kv).toNat)
        case atStart => exact ⟨0, by omega, rfl, rfl, Lib.hid ⟨0, rfl⟩⟩
        case round =>
          obtain ⟨k, hk, rfl, rfl, HQ⟩ := hrel
          obtain ⟨q, rfl⟩ := HQ.out
          by_cases hkm : k = m
          · subst hkm
            obtain ⟨y, hy⟩ : ∃ y, y = sumK rule p (goesL first rule p i) i k := ⟨_, rfl⟩
            have hyr := sumK_range rule (p := (p : Int)) (by omega) (goesL first rule p i) i k
            rw [← hy] at hyr HST ⊢
            have HYR : Hid (Ri y) := Lib.hid (by unfold Ri; omega)
            obtain ⟨wq, hwq⟩ : ∃ wq, wq = wr.drewN q := ⟨_, rfl⟩
            have FQ : Hid (Fr [] wr wq) := Lib.hid (by rw [hwq]; exact (Fr.refl [] wr).drewN q)
            have hszq := FQ.out.size
            rw [← hwq]
            clear hy hyr hwq HQ
            go_wp2_with (at_builtin; refine wp_appendI rfl _ _ rfl w.heap.size u9 (goesL first rule p i) rfl ((HO.out.keep0 FQ.out).alloc _) wq.heap.size 0 1 [y] rfl (by intro j hj; match j, hj with | 0, _ => simp [World.cell?_alloc_new]) (by intro z hz; simp at hz; subst hz; exact HYR.out) (by rw [HGL.out.1]; simp; omega) (by simp; omega) ?_; intro v' w2 ho hfr _ _; have HO2 := Lib.hid ho; have HF2 : Hid (Fr [] w w2) := Lib.hid (((HF.out.trans0 FQ.out).alloc _).trans_ownI ((HO.out.keep0 FQ.out).alloc _) hfr); clear ho hfr)
            go_roundw
            case rel => exact ⟨i + 1, by omega, by go_num, Lib.hid (by have h := HO2.out; rw [← HST.out] at h; exact h), HF2⟩
            case measure => simp [intOf]; omega
          · have hk2 : k < m := by omega
            obtain ⟨b, o, rfl, hy2⟩ := HXB.out (by omega)
            have hcz := hy2 k hk2
            obtain ⟨g, c, hu9, _, _, hcc, hcells, _⟩ := HO.out.at_ (by rw [HGL.out.1]; omega)
            rw [HGL.out.1] at hu9 hcells
            subst hu9
            have hcd := hcells (i - 1 - k) (by omega)
            have hdr : 0 ≤ (goesL first rule (p : Int) i).getD (i - 1 - k) 0 ∧ (goesL first rule (p : Int) i).getD (i - 1 - k) 0 < p := by
              have hlt : i - 1 - k < (goesL first rule (p : Int) i).length := by rw [HGL.out.1]; omega
              rw [show (goesL first rule (p : Int) i).getD (i - 1 - k) 0 = (goesL first rule (p : Int) i)[i - 1 - k] by simp [List.getD, hlt]]
              exact HGL.out.2 _ (List.getElem_mem hlt)
            have hsr := sumK_range rule (p := (p : Int)) (by omega) (goesL first rule p i) i k
            have hnx : sumK rule p (goesL first rule p i) i (k + 1) = (sumK rule p (goesL first rule p i) i k + rule.getD k 0 % p * (goesL first rule p i).getD (i - 1 - k) 0) % p := rfl
            have HNX := Lib.hid hnx
            obtain ⟨z, hz⟩ : ∃ z, z = rule.getD k 0 := ⟨_, rfl⟩
            obtain ⟨d, hd⟩ : ∃ d, d = (goesL first rule (p : Int) i).getD (i - 1 - k) 0 := ⟨_, rfl⟩
            obtain ⟨sm, hsm⟩ : ∃ sm, sm = sumK rule p (goesL first rule p i) i k := ⟨_, rfl⟩
            rw [← hz] at hcz
            rw [← hd] at hcd hdr
            rw [← hsm] at hsr ⊢
            rw [← hz, ← hd, ← hsm] at HNX
            have hcz2 : wr.cell? ⟨b, o + k, none⟩ = some (.int .i64 z) := (HF.out.cell (World.block_lt_of_cell? w _ hcz) (by simp)).trans hcz
            have hcd2 : wr.cell? ⟨g, i - 1 - k, none⟩ = some (.int .i64 d) := hcd
            obtain ⟨h1, h2, h3⟩ := tmod_facts z hp
            have hc0 := Int.emod_nonneg z (show (p : Int) ≠ 0 by omega)
            have hc1 := Int.emod_lt_of_pos z (show (0 : Int) < p by omega)
            obtain ⟨r, hr⟩ : ∃ r, r = z.tmod p := ⟨_, rfl⟩
            obtain ⟨cz, hczd⟩ : ∃ cz, cz = z % p := ⟨_, rfl⟩
            rw [← hr] at h1 h2 h3
            rw [← hczd] at h3 hc0 hc1 HNX
            have e1 : z.tmod (p : Int) = r := hr.symm
            have e2 : IntKind.i64.wrap (r + p) = r + p := IntWalk.i64_in _ (by omega)
            obtain ⟨pr, hpr⟩ : ∃ pr, pr = cz * d := ⟨_, rfl⟩
            have hpr0 : 0 ≤ pr ∧ pr ≤ 4611686018427387904 := by
              rw [hpr]
              refine ⟨Int.mul_nonneg hc0 hdr.1, ?_⟩
              have := Int.mul_le_mul (a := cz) (b := d) (c := 2147483648) (d := 2147483648) (by omega) (by omega) hdr.1 (by omega)
              omega
            rw [← hpr] at HNX
            have e3 : IntKind.i64.wrap (cz * d) = pr := by rw [← hpr]; exact IntWalk.i64_in _ (by omega)
            have e4 : IntKind.i64.wrap (sm + pr) = sm + pr := IntWalk.i64_in _ (by omega)
            obtain ⟨sn, hsn⟩ : ∃ sn, sn = sumK rule p (goesL first rule p i) i (k + 1) := ⟨_, rfl⟩
            have e5 : (sm + pr).tmod (p : Int) = sn := by rw [Int.tmod_eq_emod_of_nonneg (by omega), hsn]; exact HNX.out.symm
            have hij : IntKind.i64.wrap ((i : Int) - 1) = (i : Int) - 1 := IntWalk.i64_in _ (by omega)
            have hij2 : IntKind.i64.wrap ((i : Int) - 1 - k) = (i : Int) - 1 - k := IntWalk.i64_in _ (by omega)
            have hij3 : ((i : Int) - 1 - k).toNat = i - 1 - k := by omega
            have hij4 : 0 ≤ (i : Int) - 1 - k := by omega
            have hij5 : (i : Int) - 1 - k < i := by omega
            have HSN := Lib.hid hsn
            have hcol : k < m := hk2
            clear hz hd hsm hr hczd hpr hcells hy2 hcz hcd HNX hsn
            go_wp2_with fail
            go_quiet (fail)
            go_wp2_with fail
            go_roundw
            case rel => exact ⟨k + 1, by omega, by go_num, by rw [HSN.out], Lib.hid ⟨_, by first | rfl | (simp only [World.drewN_drewN]; rfl)⟩⟩
            case measure => simp [intOf]; omega
end Go.Proofs.YtedoeadhbcjjgaaDoor

/- For recur.Shortest's walk: laws, rows that are filled one by one. -/
namespace Go.Proofs.YtedoeadhbcjjgaaDoor
open Go.RowKit

section
variable {w : World} {ops : Array Oper} {rest : List Oper} {o : Oper} {a : Act} {Q : Exit → Act → World → Prop}
theorem wp_appendIat (hg : o.guard = none) (s x : Operand) (hop : o.op = Op.call { callee := Callee.builtin Builtin.append, args := #[s, x], argTypes := #[22, 22] })
    (base : Nat) (v : Value) (xs : List Int) (hs : a.eval s = v) (hown : OwI w base v xs) (g off c : Nat) (news : List Int) (hx : a.eval x = .slice (some ⟨g, off, none⟩) news.length c)
    (hc : ∀ j, j < news.length → w.cell? ⟨g, off + j, none⟩ = some (.int .i64 (news.getD j 0))) (hbn : ∀ y ∈ news, Ri y) (hn : xs.length + news.length ≤ 10000000000000) (hb : base ≤ w.heap.size)
    (hK : ∀ v' w', OwI w' base v' (xs ++ news) → Fr v.ownBlock.toList w w' → (v'.ownBlock = v.ownBlock ∨ v'.ownBlock = some w.heap.size) → wpList Tryd.prog ops Q rest (a.put o.dst v') w') :
    wpList Tryd.prog ops Q (o :: rest) a w := by
  obtain ⟨i0, hi, hz0, hz1, hz2⟩ := info_parts infoI
  refine wpList_append_own_at w hg s x 22 hop base 2 i0 (.int .i64 0) 1 8 Tryd.underlying22 hi hz0 hz1 hz2 rfl (by decide) v xs.length (i64s xs) hs hown.2 ⟨g, off, none⟩ news.length c (i64s news) hx (by simp [i64s]) ?_ (i64s_one news) (by unfold maxLen; omega) (by omega) hb ?_
  · intro j u hu
    have hj : j < news.length := by
      have := (List.getElem?_eq_some_iff.1 hu).1
      simpa [i64s] using this
    rw [Addr.add_lit, hc j hj, ← i64s_at hj, hu]
  · intro v' w1 hown' hgrow _ hat
    rw [← i64s_append] at hown'
    have h1 : OwI w1 base v' (xs ++ news) := ⟨fun y hy => by rcases List.mem_append.1 hy with h | h; exact hown.1 y h; exact hbn y h, by simpa using hown'⟩
    exact hK v' w1 h1 (Fr.of_grown hgrow) hat
end

/-- slices.Clone of a row that is not empty. -/
def OutI (w : World) (xs : List Int) (e : Ending) (w' : World) : Prop := ∃ v', e = .returned v' ∧ OwI w' w.heap.size v' xs ∧ Fr [] w w'
theorem cloneI_any (v : Value) (xs : List Int) (w : World) (h : SlI w v xs) (h0 : 0 < xs.length) (hl : xs.length ≤ 1000000000) : Calls Tryd.prog 17 #[v] w (OutI w xs) := by
  have hri : ∀ x ∈ xs, Ri x := by obtain ⟨_, _, _, _, h, _⟩ := h; exact h
  obtain ⟨A, c, rfl, hc, hx⟩ := h.open_
  obtain ⟨b, o, rfl, hx2⟩ := hx h0
  refine (Tryd.slices_Clone_int b o xs.length c xs w (Nat.le_refl _) (by omega) hx2).mono ?_
  rintro e w' ⟨v', rfl, ho, _, hb⟩
  refine ⟨v', rfl, ⟨hri, ?_⟩, Fr.of_below hb⟩
  rw [List.take_length] at ho
  exact ho

/-- A row of k numbers told, noughts behind. -/
def fillK (f : Nat → Int) (n k : Nat) : List Int := (List.range n).map fun i => if i < k then f i else 0
theorem fillK_length (f : Nat → Int) (n k : Nat) : (fillK f n k).length = n := by simp [fillK]
theorem fillK_zero (f : Nat → Int) (n : Nat) : fillK f n 0 = List.replicate n 0 := by
  refine List.ext_getElem (by simp [fillK]) ?_
  intro i h1 h2
  simp [fillK]
theorem fillK_set (f : Nat → Int) {n k : Nat} (_h : k < n) : (fillK f n k).set k (f k) = fillK f n (k + 1) := by
  refine List.ext_getElem (by simp [fillK]) ?_
  intro i h1 h2
  rw [List.getElem_set]
  simp only [fillK, List.getElem_map, List.getElem_range]
  by_cases hik : k = i
  · subst hik; simp
  · rw [if_neg hik]
    by_cases h3 : i < k
    · rw [if_pos h3, if_pos (by omega)]
    · rw [if_neg h3, if_neg (by omega)]
theorem fillK_full (f : Nat → Int) (n : Nat) : fillK f n n = (List.range n).map f := by
  refine List.ext_getElem (by simp [fillK]) ?_
  intro i h1 h2
  have : i < n := by simpa using h2
  simp [fillK, this]
/-- The list modulo p. -/
def rowOf (l : List Int) (p : Int) : List Int := (List.range l.length).map fun i => l.getD i 0 % p
theorem rowOf_length (l : List Int) (p : Int) : (rowOf l p).length = l.length := by simp [rowOf]
theorem rowOf_in {l : List Int} {p : Int} (hp : 1 < p) : Ins p (rowOf l p) := by
  intro x hx
  simp only [rowOf, List.mem_map] at hx
  obtain ⟨i, _, rfl⟩ := hx
  exact In.mod hp _
theorem rowOf_of_in {l : List Int} {p : Int} (hl : Ins p l) : rowOf l p = l := by
  refine List.ext_getElem (by simp [rowOf]) ?_
  intro i h1 h2
  simp only [rowOf, List.getElem_map, List.getElem_range]
  rw [show l.getD i 0 = l[i] by simp [List.getD, h2]]
  have := hl _ (List.getElem_mem h2)
  exact Int.emod_eq_of_lt this.1 this.2
theorem OwI.slot {w : World} {base : Nat} {v : Value} {xs : List Int} (h : OwI w base v xs) (h0 : 0 < xs.length) : ∃ g c, v = .slice (some ⟨g, 0, none⟩) xs.length c ∧ base ≤ g ∧ g < w.heap.size ∧ v.ownBlock = some g := by
  obtain ⟨g, c, hv, h1, h2, _⟩ := h.at_ h0
  exact ⟨g, c, hv, h1, h2, by rw [hv]; rfl⟩

theorem fillK_skip (f : Nat → Int) {n k : Nat} (h : f k = 0) : fillK f n k = fillK f n (k + 1) := by
  refine List.ext_getElem (by simp [fillK]) ?_
  intro i h1 h2
  simp only [fillK, List.getElem_map, List.getElem_range]
  by_cases hik : k = i
  · subst hik; simp [h]
  · by_cases h3 : i < k
    · rw [if_pos h3, if_pos (by omega)]
    · rw [if_neg h3, if_neg (by omega)]
theorem Ins.ri {p : Nat} (hpb : p < 2147483648) {l : List Int} (h : Ins p l) : ∀ x ∈ l, Ri x := by
  intro x hx
  have h1 := (h x hx).1
  have h2 := (h x hx).2
  unfold Ri; omega
theorem OwI_lit {w : World} {base g : Nat} {xs : List Int} {n : Nat} {T : TypeId} (hT : T = 2) (hn : n = xs.length) (h : w.heap[g]? = some (.cells (i64s xs).toArray T (0, 0))) (hb : base ≤ g) (hr : ∀ x ∈ xs, Ri x) (hl : xs.length ≤ 1000000) :
    OwI w base (.slice (some ⟨g, 0, none⟩) n n) xs := by
  subst hn
  subst hT
  refine ⟨hr, by rw [i64s_length, Nat.mul_one], .inr ⟨g, xs.length, _, rfl, hb, h, Nat.le_refl _, by unfold maxLen; omega, by simp [i64s_length], ?_⟩⟩
  simp only [Nat.mul_one]
  rw [← i64s_length xs, List.take_length]
theorem OwI.storeN {w : World} {base g c n : Nat} {xs : List Int} (h : OwI w base (.slice (some ⟨g, 0, none⟩) n c) xs) (hn : xs.length = n) (j : Nat) (x : Int) (hx : Ri x) : OwI (w.setCell ⟨g, j, none⟩ (.int .i64 x)) base (.slice (some ⟨g, 0, none⟩) n c) (xs.set j x) := by
  subst hn; exact h.store j x hx
theorem OwI.frozenN {w : World} {base g c n : Nat} {xs : List Int} (h : OwI w base (.slice (some ⟨g, 0, none⟩) n c) xs) (hn : xs.length = n) (h0 : 0 < n) (j : Nat) : w.frozen? ⟨g, j, none⟩ = false := by
  subst hn
  obtain ⟨_, _, e, _, _, _, _, hf⟩ := h.at_ h0
  simp only [Value.slice.injEq, Option.some.injEq, Addr.mk.injEq, and_true, true_and] at e
  obtain ⟨rfl, _⟩ := e; exact hf j
def lenV : Value → Nat
  | .slice _ n _ => n
  | _ => 0

/-- What 'Shortest' tells. -/
def ShPost (l : List Int) (p : Nat) (w : World) (e : Ending) (w' : World) : Prop :=
  ∃ v' : Value, Fr [] w w' ∧
    ((l.length < 2 * (bmRun p (rowOf l p) l.length).size ∧ v' = .slice none 0 0 ∧ e = .returned (.tuple #[v', .int .i64 340])) ∨
     (2 * (bmRun p (rowOf l p) l.length).size ≤ l.length ∧ OwI w' w.heap.size v' (bmOut p (bmRun p (rowOf l p) l.length)) ∧ e = .returned (.tuple #[v', .int .i64 0])))

/-- The main loop's state. -/
structure ShSt (B : Nat) (w : World) (nv tv : Value) (p : Nat) (row : List Int) (n : Nat) (st : BM) : Prop where
  inv : BInv p row n st
  nown : OwI w B nv st.now
  town : OwI w B tv st.tn
  sep : nv.ownBlock ≠ tv.ownBlock
end Go.Proofs.YtedoeadhbcjjgaaDoor

/- The law of XR0 for any order of the operations (an order that the edges allow), not the text's alone. -/
namespace Go.Proofs.YtedoeadhbcjjgaaDoor
open Go.RowKit

section
variable {P : Program} {ops : Array Oper} {Q : Exit → Act → World → Prop} {md : Region.Mode} {S : World → Prop} {n : Nat}

def wpLexP (P : Program) (ops : Array Oper) (Q : Exit → Act → World → Prop) (S : World → Prop) (n : Nat) : List (Nat × Bool) → Act → World → Prop
  | [], a, w => Q .normal a w
  | (k, false) :: l, a, w => ∃ o v, ops[k]? = some o ∧ YieldsIf P ops S o v a ∧ wpLexP P ops Q S n l (a.put o.dst v) w
  | (k, true) :: l, a, w => wpOp P ops Q k (fun a' w' => (k < n → S w') ∧ wpLexP P ops Q S n l a' w') a w

def lexOkP (md : Region.Mode) (ops : Array Oper) (n : Nat) : List (Nat × Bool) → Array Bool → Bool
  | [], listed => (Region.ready md ops listed).isEmpty
  | (k, false) :: l, listed => decide (k < n) && (Region.ready md ops listed).contains k && Region.free md ops listed k && lexOkP md ops n l (listed.setIfInBounds k true)
  | (k, true) :: l, listed => decide (Region.ready md ops listed = [k]) && (decide (k < n) || l.all (fun x => !decide (x.1 < n))) && lexOkP md ops n l (listed.setIfInBounds k true)

theorem wpAnyG_lexP (hsel : Region.noSelect ops = true) (hn : n < ops.size) (hsink : Region.sinkB md ops n = true) (hchain : Region.chainB md ops n = true)
    (hQ : ∀ c a d v w, Q (.panic c) (a.put d v) w → Q (.panic c) a w) : ∀ (l : List (Nat × Bool)) (listed : Array Bool) (a : Act) (w : World),
    (l.any (fun x => decide (x.1 < n)) = true → HeadInv md ops n listed ∧ S w) → lexOkP md ops n l listed = true → wpLexP P ops Q S n l a w → wpAnyG P md ops Q S n l.length listed a w
  | [], listed, a, w, _, hB, h => by
    exact ⟨by simpa [lexOkP] using hB, h⟩
  | (k, false) :: l, listed, a, w, hI, hB, h => by
    simp only [lexOkP, Bool.and_eq_true, decide_eq_true_eq] at hB
    obtain ⟨⟨⟨hkn, hr⟩, hf⟩, hB'⟩ := hB
    have hr' : k ∈ Region.ready md ops listed := by simpa using hr
    obtain ⟨o, v, h0, hy, hK⟩ := h
    obtain ⟨inv, hS⟩ := hI (by simp [hkn])
    exact wpAnyG_first h0 hkn hn hsink hchain (Region.noSelect_spec hsel) (fun c a w => hQ c a _ _ w) l.length listed a w inv (Region.free_spec h0 hf) hr' hy hS
      (wpAnyG_lexP hsel hn hsink hchain hQ l _ _ _ (fun _ => ⟨inv.set hr' hkn, hS⟩) hB' hK)
  | (k, true) :: l, listed, a, w, hI, hB, h => by
    simp only [lexOkP, Bool.and_eq_true, decide_eq_true_eq] at hB
    obtain ⟨⟨hr, ht⟩, hB'⟩ := hB
    have hr' : k ∈ Region.ready md ops listed := by rw [hr]; simp
    refine ⟨fun h1 => (by rw [h1] at hr; cases hr), fun i hi => ?_⟩
    rw [hr] at hi
    have hik : i = k := by simpa using hi
    subst hik
    refine wpOp_mono (fun a' w' h' => ⟨h'.1, wpAnyG_lexP hsel hn hsink hchain hQ l _ a' w' (fun hany => ?_) hB' h'.2⟩) h
    by_cases hin : i < n
    · exact ⟨(hI (by simp [hin])).1.set hr' hin, h'.1 hin⟩
    · exfalso
      simp only [hin, decide_false, Bool.false_or, List.all_eq_true] at ht
      simp only [List.any_eq_true] at hany
      obtain ⟨x, hx, hx2⟩ := hany
      have := ht x hx
      rw [hx2] at this
      cases this

/-- The law. -/
theorem wp_region_lexP {id : Nat} {a : Act} {w : World} {l : List Oper} (order : List (Nat × Bool)) (S : World → Prop) (n : Nat) (hm : P.follows .mixedOrders = true)
    (hB : (Region.noSelect l.toArray && decide (n < l.length) && Region.sinkB .any l.toArray n && Region.chainB .any l.toArray n && decide (order.length = l.length) && lexOkP .any l.toArray n order (Array.replicate l.length false)) = true)
    (hQ : ∀ c a d v w, Q (.panic c) (a.put d v) w → Q (.panic c) a w) (hS : S w.drew) (h : wpLexP P l.toArray Q S n order a w.drew) : (Code.region id l.toArray true).wp P Q a w := by
  simp only [Bool.and_eq_true, decide_eq_true_eq] at hB
  obtain ⟨⟨⟨⟨⟨hsel, hn⟩, hs⟩, hc⟩, hlen⟩, hlex⟩ := hB
  refine wp_region_any hm (wpAny_of_G (S := S) (n := n) _ _ _ _ ?_)
  have := wpAnyG_lexP (md := .any) (S := S) hsel (by simpa using hn) hs hc hQ order (Array.replicate l.length false) a w.drew
    (fun _ => ⟨⟨by simp, fun j oj _ hl => (by rw [getD_replicate_false] at hl; cases hl), fun t _ ht => getD_in (by simpa using ht) (getD_replicate_false _ _)⟩, hS⟩) hlex h
  rw [hlen] at this
  simpa using this

/-- An operation that is carried out. -/
theorem lexP_step {k : Nat} {o : Oper} {l : List (Nat × Bool)} {a : Act} {w : World} (h0 : ops[k]? = some o) (hw : Region.wanted o (yielded ops a.tmps) = true)
    (h : ∀ K : Act → World → Prop, Hid (∀ a' w', (k < n → S w') → wpLexP P ops Q S n l a' w' → K a' w') → Oper.wp P o a w K Q) : wpLexP P ops Q S n ((k, true) :: l) a w := by
  show wpOp P ops Q k _ a w
  unfold wpOp
  simp only [h0, hw, if_true]
  exact .inl (h _ (Lib.hid (fun _ _ hS h => ⟨hS, h⟩)))
theorem lexP_yield {k : Nat} {o : Oper} {l : List (Nat × Bool)} {a : Act} {w : World} {v : Value} (h0 : ops[k]? = some o) (hw : Region.wanted o (yielded ops a.tmps) = true)
    (hy : ∀ w, S w → (execOp a.eval o).run P w = .ok (.value v) w) (h : wpLexP P ops Q S n l (a.put o.dst v) w) : wpLexP P ops Q S n ((k, false) :: l) a w :=
  ⟨o, v, h0, .inl ⟨hw, hy⟩, h⟩
/-- An operation that is not wanted. -/
theorem lexP_done {a : Act} {w : World} (h : Q .normal a w) : wpLexP P ops Q S n [] a w := h
end
end Go.Proofs.YtedoeadhbcjjgaaDoor
