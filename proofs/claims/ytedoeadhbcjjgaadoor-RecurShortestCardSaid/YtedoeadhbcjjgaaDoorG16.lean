/- Joined by program (merge.py) out of 5 texts, a part of the proof: contracts of the functions that the statement reaches, and plain mathematics. No statement of the seat stands here. -/
import Derived.Test.YtedoeadhbcjjgaaDoorG15
import Derived.Test.YtedoeadhbcjjgaaDoorG01
/- rosetteref00: NatTrim, low, NatOf. -/
namespace Go.Proofs.YtedoeadhbcjjgaaDoor
open Go.RowKit

theorem OwU_app {w : World} {base : Nat} {v : Value} {xs : List Nat} (h : OwU w base v ([] ++ xs)) : OwU w base v xs := by simpa using h

set_option maxRecDepth 100000 in
set_option maxHeartbeats 4000000 in
theorem natTrim_any (v : Value) (xs : List Nat) (w : World) (h : SlU w v xs) (hl : xs.length ≤ 1000000000) :
    Calls Tryd.prog 86 #[v] w (OutL w (trimL xs)) := by
  have HS := Lib.hid h
  obtain ⟨A, c, rfl, hc, hcell⟩ := h.open_
  have HL := Lib.hid hl
  obtain ⟨m, hm⟩ : ∃ m, m = xs.length := ⟨_, rfl⟩
  rw [← hm] at hc hcell HS HL hl ⊢
  have HM := Lib.hid hm
  have HC := Lib.hid hcell
  clear h hm hcell
  go_enter Tryd.func86, Tryd.ntmps86
  go_wp2_with fail
  go_loop [3] (fun l => ∃ n : Nat, n ≤ m ∧ Hid (trimL (xs.take n) = trimL xs) ∧ l = .int .i64 (n : Int)) (fun l => (intOf l).toNat)
  case atStart => exact ⟨m, Nat.le_refl _, Lib.hid (by rw [HM.out, List.take_length]), rfl⟩
  case round =>
    obtain ⟨n, hn, ht, rfl⟩ := hrel
    have key : ∀ k : Nat, k ≤ m → trimL xs = xs.take k → Hid (SlU w (.slice A k c) (trimL xs) ∧ (trimL xs).length ≤ 1000000000) := by
      intro k hk e
      have := HS.out.len
      have h := HS.out
      rw [HM.out] at h
      exact Lib.hid ⟨by rw [e]; exact h.prefix_ (by omega), by rw [e, List.length_take]; omega⟩
    by_cases hp : 0 < n
    · obtain ⟨b, o, rfl, hce⟩ := HC.out (by omega)
      have h1 := hce (n - 1) (by omega)
      by_cases h0 : xs.getD (n - 1) 0 = 0
      · rw [h0] at h1
        have h2 := trimL_take (xs := xs) (n := n - 1) (by rw [← HM.out]; omega) h0
        rw [show n - 1 + 1 = n by omega] at h2
        have H2 := Lib.hid h2
        clear h2 h0 hce key
        go_wp2
        go_round
        case rel => exact ⟨n - 1, by omega, Lib.hid (H2.out.symm.trans ht.out), by go_num⟩
        case measure => simp [intOf]; omega
      · obtain ⟨x, hx⟩ : ∃ x, x = xs.getD (n - 1) 0 := ⟨_, rfl⟩
        rw [← hx] at h1 h0
        have h2 := trimL_take_last (xs := xs) (n := n - 1) (by rw [← HM.out]; omega) (by rw [← hx]; exact h0)
        rw [show n - 1 + 1 = n by omega, ht.out] at h2
        have H2 := key n hn h2
        have h3 : ((x : Int) == 0) = false := by simpa using h0
        clear h2 h0 hx hce key ht
        go_wp2_with (at_builtin; refine wp_appendS rfl _ _ rfl w.heap.size _ [] rfl (OwU_nil w w.heap.size) _ (trimL xs) rfl H2.out.1 (by have := H2.out.2; simp; omega) (Nat.le_refl _) ?_; intro v' w1 hown hgrow _ _; have HO := Lib.hid (OwU_app hown); have HF : Hid (Fr [] w w1) := Lib.hid (by exact hgrow); clear hown hgrow)
        go_ret
        exact ⟨v', rfl, HO.out, HF.out⟩
    · have hz : n = 0 := by omega
      subst hz
      have H2 := key 0 (by omega) (by rw [← ht.out, List.take_zero]; rfl)
      clear key ht HC
      go_wp2_with (at_builtin; refine wp_appendS rfl _ _ rfl w.heap.size _ [] rfl (OwU_nil w w.heap.size) _ (trimL xs) rfl H2.out.1 (by have := H2.out.2; simp; omega) (Nat.le_refl _) ?_; intro v' w1 hown hgrow _ _; have HO := Lib.hid (OwU_app hown); have HF : Hid (Fr [] w w1) := Lib.hid (by exact hgrow); clear hown hgrow)
      go_ret
      exact ⟨v', rfl, HO.out, HF.out⟩

set_option maxRecDepth 100000 in
set_option maxHeartbeats 4000000 in
theorem low_core (A : Option Addr) (c : Nat) (xs : List Nat) (w : World) (h : SlU w (.slice A xs.length c) xs) (hl : xs.length ≤ 1000000000000) :
    Calls Tryd.prog 90 #[.slice A xs.length c] w (TrimPost A c xs w) := by
  obtain ⟨A', c', e, hc, hcell⟩ := h.open_
  simp only [Value.slice.injEq, true_and] at e
  obtain ⟨rfl, rfl⟩ := e
  obtain ⟨m, hm⟩ : ∃ m, m = xs.length := ⟨_, rfl⟩
  rw [← hm] at hc hcell hl ⊢
  have HM := Lib.hid hm
  have HC := Lib.hid hcell
  clear h hm hcell
  go_enter Tryd.func90, Tryd.ntmps90
  go_wp2_with fail
  go_loop [3] (fun l => ∃ n : Nat, n ≤ m ∧ Hid (trimL (xs.take n) = trimL xs) ∧ l = .int .i64 (n : Int)) (fun l => (intOf l).toNat)
  case atStart => exact ⟨m, Nat.le_refl _, Lib.hid (by rw [HM.out, List.take_length]), rfl⟩
  case round =>
    obtain ⟨n, hn, ht, rfl⟩ := hrel
    by_cases hp : 0 < n
    · obtain ⟨b, o, rfl, hce⟩ := HC.out (by omega)
      have h1 := hce (n - 1) (by omega)
      by_cases h0 : xs.getD (n - 1) 0 = 0
      · rw [h0] at h1
        have h2 := trimL_take (xs := xs) (n := n - 1) (by rw [← HM.out]; omega) h0
        rw [show n - 1 + 1 = n by omega] at h2
        have H2 := Lib.hid h2
        clear h2 h0 hce
        go_wp2
        go_round
        case rel => exact ⟨n - 1, by omega, Lib.hid (H2.out.symm.trans ht.out), by go_num⟩
        case measure => simp [intOf]; omega
      · obtain ⟨x, hx⟩ : ∃ x, x = xs.getD (n - 1) 0 := ⟨_, rfl⟩
        rw [← hx] at h1 h0
        have h2 := trimL_take_last (xs := xs) (n := n - 1) (by rw [← HM.out]; omega) (by rw [← hx]; exact h0)
        rw [show n - 1 + 1 = n by omega, ht.out] at h2
        have H2 := Lib.hid h2
        have h3 : ((x : Int) == 0) = false := by simpa using h0
        clear h2 h0 hx hce
        go_wp2
        go_ret
        refine ⟨?_, rfl⟩
        rw [H2.out, List.length_take, ← HM.out, Nat.min_eq_left hn]; rfl
    · have hz : n = 0 := by omega
      subst hz
      have H2 := Lib.hid (ht.out.symm.trans (by rw [List.take_zero]; rfl) : trimL xs = [])
      clear ht HC
      go_wp2
      go_ret
      exact ⟨by rw [H2.out]; rfl, rfl⟩
theorem low_ow (base : Nat) (v : Value) (xs : List Nat) (w : World) (h : OwU w base v xs) (hl : xs.length ≤ 1000000000000) : Calls Tryd.prog 90 #[v] w (TrimOw w base v xs) := by
  obtain ⟨A, c, rfl, _⟩ := h.sl.open_
  refine (low_core A c xs w h.sl hl).mono ?_
  rintro e w' ⟨rfl, rfl⟩
  refine ⟨_, rfl, ?_, by cases A <;> rfl, rfl⟩
  have := h.prefix_ (trimL_length xs)
  rwa [← trimL_prefix] at this

set_option maxRecDepth 100000 in
set_option maxHeartbeats 2000000 in
theorem natOf_any (x : Nat) (w : World) (hx : x < BW) : Calls Tryd.prog 65 #[.int .u64 (x : Int)] w (OutU w x) := by
  have HX := Lib.hid hx
  have HT : Hid (trimL [x] = limbs x) := Lib.hid (trimL_of_val (Bd.cons hx Bd.nil) (val_single x))
  clear hx
  go_enter Tryd.func65, Tryd.ntmps65
  go_wp2_with fail
  refine (natTrim_any _ [x] _ ⟨some ⟨w.heap.size, 0, none⟩, 1, rfl, by simp, Bd.cons HX.out Bd.nil, fun _ => ⟨_, _, rfl, by intro j hj; match j, hj with | 0, _ => simp [World.cell?_alloc_new, u64s]⟩, fun _ b o e => by simp at e; obtain ⟨rfl, _⟩ := e; exact ⟨_, _, heap_alloc_new w _⟩⟩ (by simp)).mono ?_
  rintro e w1 ⟨v', rfl, ho, hf⟩
  have HO := Lib.hid ho
  have HF : Hid (Fr [] w w1) := Lib.hid (((Fr.refl [] w).alloc _).trans0 hf)
  clear ho hf
  go_wp2
  go_ret
  exact ⟨v', rfl, by have h := HO.out; rw [HT.out] at h; exact h.base_le (by simp), HF.out⟩
end Go.Proofs.YtedoeadhbcjjgaaDoor

/- append as an operation of a region that draws. -/
namespace Go.Proofs.YtedoeadhbcjjgaaDoor
open Go.RowKit

section
variable {w : World} {o : Oper} {a : Act} {K : Act → World → Prop} {Q : Exit → Act → World → Prop}
theorem op_appendU (s x : Operand) (hop : o.op = Op.call { callee := Callee.builtin Builtin.append, args := #[s, x], argTypes := #[36, 36] })
    (base : Nat) (v : Value) (xs : List Nat) (hs : a.eval s = v) (hown : OwU w base v xs) (g off c : Nat) (news : List Nat) (hx : a.eval x = .slice (some ⟨g, off, none⟩) news.length c)
    (hc : ∀ j, j < news.length → w.cell? ⟨g, off + j, none⟩ = some (.int .u64 ((news.getD j 0 : Nat) : Int))) (hbn : Bd news) (hn : xs.length + news.length ≤ 10000000000000) (hb : base ≤ w.heap.size)
    (hK : ∀ v' w', OwU w' base v' (xs ++ news) → Fr v.ownBlock.toList w w' → K (a.put o.dst v') w') : o.wp Tryd.prog a w K Q := by
  obtain ⟨i0, hi, hz0, hz1, hz2⟩ := info_parts infoU
  obtain ⟨v', w', hrun, hown', hgrow, _, _⟩ := run_append_own_at (P := Tryd.prog) w base 36 o.type 58 i0 (.int .u64 0) 1 8 Tryd.underlying36 hi hz0 hz1 hz2 rfl (by decide) v xs.length (u64s xs) hown.2 ⟨g, off, none⟩ news.length c (u64s news) (by simp [u64s])
    (fun j u hu => by
      have hj : j < news.length := by
        have := (List.getElem?_eq_some_iff.1 hu).1
        simpa [u64s] using this
      rw [Addr.add_lit, hc j hj, ← u64s_at hj, hu]) (u64s_one news) (by unfold maxLen; omega) (by omega) hb
  rw [← u64s_append] at hown'
  have h1 : OwU w' base v' (xs ++ news) := ⟨hown.1.append hbn, by simpa using hown'⟩
  unfold Oper.wp execOp
  simp only [hop, resolve, invoke, builtin, Sem.run_bind, Sem.run_pure, Result.andThen_ok, List.map_toArray, List.map_cons, List.map_nil, hs, hx, hrun]
  exact hK v' w' h1 (Fr.of_grown hgrow)
end
end Go.Proofs.YtedoeadhbcjjgaaDoor

/- rosetteref00: halves, limbs, NatUp by 0. -/
namespace Go.Proofs.YtedoeadhbcjjgaaDoor
open Go.RowKit

theorem getD_take1 (l : List Nat) {m k : Nat} (h : k < m) : (l.take m).getD k 0 = l.getD k 0 := by
  simp only [List.getD, List.getElem?_take, if_pos h]

set_option maxRecDepth 100000 in
set_option maxHeartbeats 4000000 in
theorem halves_any (v : Value) (xs : List Nat) (w : World) (h : SlU w v xs) (hl : xs.length ≤ 1000000000) :
    Calls Tryd.prog 84 #[v] w (OutL w (trimL (halvesL xs))) := by
  have HS := Lib.hid h
  have HBD := Lib.hid h.bd
  obtain ⟨A, c, rfl, hc, hcell⟩ := h.open_
  obtain ⟨m, hm⟩ : ∃ m, m = xs.length := ⟨_, rfl⟩
  rw [← hm] at hc hcell HS hl ⊢
  have HM := Lib.hid hm
  have HC := Lib.hid hcell
  clear h hm hcell
  go_enter Tryd.func84, Tryd.ntmps84
  go_wp2_with fail
  go_loopw [3, 4] (fun ov iv wr => ∃ k : Nat, k ≤ m ∧ iv = .int .i64 (k : Int) ∧ Hid (OwU wr w.heap.size ov (halvesL (xs.take k))) ∧ Hid (Fr [] w wr)) (fun _ iv _ => m - (intOf iv).toNat)
  case atStart => exact ⟨0, by omega, rfl, Lib.hid (OwU_nil _ _), Lib.hid (Fr.refl _ _)⟩
  case round =>
    obtain ⟨k, hk, rfl, HO, HF⟩ := hrel
    by_cases hkm : k = m
    · have hkm' := hkm.symm
      subst hkm'
      have HO2 : Hid (OwU wr w.heap.size u3 (halvesL xs)) := Lib.hid (by have h := HO.out; rw [HM.out, List.take_length] at h; exact h)
      have hlen : (halvesL xs).length ≤ 1000000000000 := by rw [halvesL_length, ← HM.out]; omega
      have HLEN := Lib.hid hlen
      clear HO hkm hlen
      go_wp2_with (go_at_call 90; refine (low_ow w.heap.size u3 (halvesL xs) wr HO2.out HLEN.out).mono ?_; rintro e w' ⟨v', rfl, ho, _, rfl⟩; have HR := Lib.hid ho; clear ho)
      go_ret
      exact ⟨v', rfl, HR.out, HF.out⟩
    · have hk2 : k < m := by omega
      obtain ⟨b, o, rfl, hce⟩ := HC.out (by omega)
      have h1 := hce k hk2
      have hx := HBD.out.getD k
      have htk := take_succ_getD (xs := xs) (i := k) (by rw [← HM.out]; exact hk2)
      obtain ⟨x, hxd⟩ : ∃ x, x = xs.getD k 0 := ⟨_, rfl⟩
      rw [← hxd] at h1 hx htk
      rw [BW_eq] at hx
      have h2 : wr.cell? ⟨b, o + k, none⟩ = some (.int .u64 (x : Int)) := (HF.out.cell (World.block_lt_of_cell? w _ h1) (by simp)).trans h1
      have HN : Hid (halvesL (xs.take (k + 1)) = halvesL (xs.take k) ++ [x % 4294967296, x / 4294967296]) := Lib.hid (by rw [htk, halvesL_snoc]; rfl)
      have HX : Hid (x % 4294967296 < BW ∧ x / 4294967296 < BW) := Lib.hid (by rw [BW_eq]; omega)
      have HLK : Hid ((halvesL (xs.take k)).length ≤ 2000000000) := Lib.hid (by rw [halvesL_length, List.length_take]; omega)
      have e1 : ((x : Int)).tmod 4294967296 = ((x % 4294967296 : Nat) : Int) := by rw [Int.tmod_eq_emod_of_nonneg (by omega)]; omega
      have e2 : ((x : Int)).tdiv 4294967296 = ((x / 4294967296 : Nat) : Int) := by rw [Int.tdiv_eq_ediv_of_nonneg (by omega)]; omega
      have hkm0 : (k : Int) < (m : Int) := by omega
      clear hxd htk h1 hce hkm
      go_wp2_with fail
      obtain ⟨y, hy⟩ : ∃ y, y = x % 4294967296 := ⟨_, rfl⟩
      obtain ⟨z, hz⟩ : ∃ z, z = x / 4294967296 := ⟨_, rfl⟩
      rw [← hy] at e1 HN HX
      rw [← hz] at e2 HN HX
      have hzb := HX.out.2
      rw [BW_eq] at hzb
      have e3 : IntKind.u64.wrap (z : Int) = (z : Int) := IntWalk.u64_in _ (by omega)
      have hblt := World.block_lt_of_cell? wr _ h2
      clear hy hz
      refine wp_region_lexP [(0, false), (1, false), (2, false), (3, false), (4, false), (5, false), (6, false), (7, false), (8, false), (9, false), (10, false), (11, true), (12, true), (13, true)] (fun w' => w'.cell? ⟨b, o + k, none⟩ = some (.int .u64 (x : Int))) 12 (by kernel_rfl) (by kernel_rfl) (fun _ _ d _ _ h => by cases d <;> exact h) h2 ?_
      iterate 11 (refine lexP_yield (by rfl) (by rfl) (by intro w hSw; (try dsimp only at hSw); go_simp; (try rfl)) ?_; simp only [Act.put, List.setIfInBounds_toArray, List.set_cons_zero, List.set_cons_succ])
      refine lexP_step (by rfl) (by rfl) (fun K hK => ?_)
      go_simp
      refine hK.out _ _ (fun _ => ((((Fr.refl [] wr).drew).alloc _).cell (p := ⟨b, o + k, none⟩) hblt (by simp)).trans h2) ?_
      clear hK K
      try simp only [Act.put, List.setIfInBounds_toArray, List.set_cons_zero, List.set_cons_succ]
      refine lexP_step (by rfl) (by rfl) (fun K hK => ?_)
      refine op_appendU _ _ rfl w.heap.size u3 (halvesL (xs.take k)) rfl ((HO.out.keep0 (Fr.refl [] wr).drew).keep0 ((Fr.refl [] _).alloc _)) wr.heap.size 0 2 [y, z] rfl (by intro j hj; match j, hj with | 0, _ => simp [World.cell?_alloc_new] | 1, _ => simp [World.cell?_alloc_new]) (Bd.cons HX.out.1 (Bd.cons HX.out.2 Bd.nil)) (by have := HLK.out; simp; omega) (by have := HF.out.size; simp; omega) ?_
      intro v' w2 ho hfr
      have HO2 := Lib.hid ho
      have HF2 : Hid (Fr [] w w2) := Lib.hid (((HF.out.drew).alloc _).trans_own ((HO.out.keep0 (Fr.refl [] wr).drew).keep0 ((Fr.refl [] _).alloc _)) hfr)
      clear ho hfr
      refine hK.out _ _ (fun h => absurd h (by decide)) ?_
      clear hK K
      try simp only [Act.put, List.setIfInBounds_toArray, List.set_cons_zero, List.set_cons_succ]
      refine lexP_step (by rfl) (by rfl) (fun K hK => ?_)
      go_simp
      refine hK.out _ _ (fun h => absurd h (by decide)) ?_
      clear hK K
      refine lexP_done ?_
      go_wp2_with fail
      go_roundw
      case rel => exact ⟨k + 1, by omega, by go_num, Lib.hid (by rw [HN.out]; exact HO2.out), HF2⟩
      case measure => simp [intOf]; omega
end Go.Proofs.YtedoeadhbcjjgaaDoor

/- rosetteref00: limbs, NatUp by 0, NatBits. -/
namespace Go.Proofs.YtedoeadhbcjjgaaDoor
open Go.RowKit

set_option maxRecDepth 100000 in
set_option maxHeartbeats 4000000 in
theorem limbsD_any (v : Value) (ds : List Nat) (w : World) (h : SlU w v ds) (hd : BdD ds) (hl : ds.length ≤ 1000000000) :
    Calls Tryd.prog 85 #[v] w (OutU w (valD ds)) := by
  have HS := Lib.hid h
  have HBD := Lib.hid hd
  obtain ⟨A, c, rfl, hc, hcell⟩ := h.open_
  obtain ⟨m, hm⟩ : ∃ m, m = ds.length := ⟨_, rfl⟩
  rw [← hm] at hc hcell HS hl ⊢
  have HM := Lib.hid hm
  have HC := Lib.hid hcell
  have HPL : Hid ((pairL ds).length = (m + 1) / 2) := Lib.hid (by rw [pairL_length, hm])
  have HPB : Hid (Bd (pairL ds)) := Lib.hid (pairL_bd hd)
  have HV : Hid (trimL (pairL ds) = limbs (valD ds)) := Lib.hid (limbs_valD hd)
  clear h hm hcell hd
  go_enter Tryd.func85, Tryd.ntmps85
  go_wp2_with fail
  go_loopw [3, 4] (fun ov iv wr => ∃ k : Nat, 2 * k ≤ m + 1 ∧ iv = .int .i64 (2 * (k : Int)) ∧ Hid (OwU wr w.heap.size ov ((pairL ds).take k)) ∧ Hid (Fr [] w wr)) (fun _ iv _ => m + 2 - (intOf iv).toNat)
  case atStart => exact ⟨0, by omega, rfl, Lib.hid (OwU_nil _ _), Lib.hid (Fr.refl _ _)⟩
  case round =>
    obtain ⟨k, hk, rfl, HO, HF⟩ := hrel
    by_cases hkm : m ≤ 2 * k
    · have HO2 : Hid (OwU wr w.heap.size u3 (pairL ds)) := Lib.hid (by have h := HO.out; rw [List.take_of_length_le (by rw [HPL.out]; omega)] at h; exact h)
      have HLEN : Hid ((pairL ds).length ≤ 1000000000) := Lib.hid (by rw [HPL.out]; omega)
      clear HO
      go_wp2_with (go_at_call 86; refine (natTrim_any u3 (pairL ds) wr HO2.out.sl HLEN.out).mono ?_; rintro e w1 ⟨v', rfl, ho, hf⟩; have HR := Lib.hid ho; have HF2 := Lib.hid (HF.out.trans0 hf); clear ho hf)
      go_ret
      exact ⟨v', rfl, by have h := HR.out; rw [HV.out] at h; exact h.base_le HF.out.size, HF2.out⟩
    · have hk2 : 2 * k < m := by omega
      obtain ⟨b, o, rfl, hce⟩ := HC.out (by omega)
      have h1 := hce (2 * k) hk2
      have hx := HBD.out.getD (2 * k)
      have htk := take_succ_getD (xs := pairL ds) (i := k) (by rw [HPL.out]; omega)
      rw [pairL_getD] at htk
      unfold pairAt at htk
      have hpx := HPB.out.getD k
      rw [pairL_getD] at hpx
      unfold pairAt at hpx
      have h2k : (2 * (k : Int)) = ((2 * k : Nat) : Int) := by omega
      obtain ⟨x, hxd⟩ : ∃ x, x = ds.getD (2 * k) 0 := ⟨_, rfl⟩
      rw [← hxd] at h1 hx htk hpx
      rw [DW_eq] at hx htk hpx
      have h2 : wr.cell? ⟨b, o + 2 * k, none⟩ = some (.int .u64 (x : Int)) := (HF.out.cell (World.block_lt_of_cell? w _ h1) (by simp)).trans h1
      have HLK : Hid (((pairL ds).take k).length ≤ 1000000000) := Lib.hid (by rw [List.length_take, HPL.out]; omega)
      have e0 : (2 * (k : Int)).toNat = 2 * k := by omega
      by_cases hk3 : 2 * k + 1 < m
      · have h3 := hce (2 * k + 1) hk3
        have hy := HBD.out.getD (2 * k + 1)
        rw [DW_eq] at hy
        obtain ⟨y, hyd⟩ : ∃ y, y = ds.getD (2 * k + 1) 0 := ⟨_, rfl⟩
        rw [← hyd] at h3 hy htk hpx
        have h4 : wr.cell? ⟨b, o + (2 * k + 1), none⟩ = some (.int .u64 (y : Int)) := (HF.out.cell (World.block_lt_of_cell? w _ h3) (by simp)).trans h3
        obtain ⟨z, hz⟩ : ∃ z, z = x + 4294967296 * y := ⟨_, rfl⟩
        rw [← hz] at htk hpx
        have HTK := Lib.hid htk
        have HPX := Lib.hid hpx
        have hzi : (x : Int) + 4294967296 * (y : Int) = ((z : Nat) : Int) := by omega
        have e1 : (2 * (k : Int) + 1).toNat = 2 * k + 1 := by omega
        clear hxd hyd hz htk hpx h1 h3 hce hkm h2k
        go_wp2_with (at_builtin; refine wp_appendU rfl _ _ rfl w.heap.size u3 ((pairL ds).take k) rfl (HO.out.keep0 ((Fr.refl [] wr).alloc _)) wr.heap.size 0 1 [z] rfl (by intro j hj; match j, hj with | 0, _ => simp [World.cell?_alloc_new]) (Bd.cons HPX.out Bd.nil) (by have := HLK.out; simp; omega) (by have := HF.out.size; simp; omega) ?_; intro v' w2 ho hfr _ _; have HO2 := Lib.hid ho; have HF2 : Hid (Fr [] w w2) := Lib.hid ((HF.out.alloc _).trans_own (HO.out.keep0 ((Fr.refl [] wr).alloc _)) hfr); clear ho hfr)
        go_roundw
        case rel => exact ⟨k + 1, by omega, by go_num, Lib.hid (by rw [HTK.out]; exact HO2.out), HF2⟩
        case measure => simp [intOf]; omega
      · have hy0 : ds.getD (2 * k + 1) 0 = 0 := getD_ge (by rw [← HM.out]; omega)
        rw [hy0, Nat.mul_zero, Nat.add_zero] at htk hpx
        have HTK := Lib.hid htk
        have HPX := Lib.hid hpx
        clear hxd hy0 htk hpx h1 hce hkm h2k
        go_wp2_with (at_builtin; refine wp_appendU rfl _ _ rfl w.heap.size u3 ((pairL ds).take k) rfl (HO.out.keep0 ((Fr.refl [] wr).alloc _)) wr.heap.size 0 1 [x] rfl (by intro j hj; match j, hj with | 0, _ => simp [World.cell?_alloc_new]) (Bd.cons HPX.out Bd.nil) (by have := HLK.out; simp; omega) (by have := HF.out.size; simp; omega) ?_; intro v' w2 ho hfr _ _; have HO2 := Lib.hid ho; have HF2 : Hid (Fr [] w w2) := Lib.hid ((HF.out.alloc _).trans_own (HO.out.keep0 ((Fr.refl [] wr).alloc _)) hfr); clear ho hfr)
        go_roundw
        case rel => exact ⟨k + 1, by omega, by go_num, Lib.hid (by rw [HTK.out]; exact HO2.out), HF2⟩
        case measure => simp [intOf]; omega

set_option maxRecDepth 100000 in
set_option maxHeartbeats 4000000 in
theorem natUp0_any (v : Value) (xs : List Nat) (w : World) (h : SlU w v xs) (hl : xs.length ≤ 100000000) :
    Calls Tryd.prog 64 #[v, .int .i64 0] w (OutU w (val xs)) := by
  have HS := Lib.hid h
  have HH : Hid (BdD (trimL (halvesL xs)) ∧ valD (trimL (halvesL xs)) = val xs ∧ (trimL (halvesL xs)).length ≤ 200000000) := Lib.hid ⟨(halvesL_bd h.bd).trim, by rw [valD_trim, valD_halves], by have h1 := trimL_length (halvesL xs); have h2 := halvesL_length xs; omega⟩
  have HL := Lib.hid hl
  clear h hl
  go_enter Tryd.func64, Tryd.ntmps64
  go_wp2_with fail
  refine (halves_any v xs w HS.out (by have := HL.out; omega)).mono ?_
  rintro e w1 ⟨v', rfl, ho, hf⟩
  obtain ⟨ds, hds⟩ : ∃ ds, ds = trimL (halvesL xs) := ⟨_, rfl⟩
  rw [← hds] at ho HH
  have HD := Lib.hid ho
  have F1 := Lib.hid hf
  obtain ⟨A, c, rfl, hc, hcell⟩ := ho.sl.open_
  obtain ⟨m, hm⟩ : ∃ m, m = ds.length := ⟨_, rfl⟩
  rw [← hm] at hc hcell HD ⊢
  have HM := Lib.hid hm
  have hmb : m ≤ 200000000 := by have := HH.out.2.2; omega
  have HC := Lib.hid hcell
  clear hds ho hf hm hcell
  by_cases h0 : m = 0
  · subst h0
    have hz : val xs = 0 := by
      have h1 := List.eq_nil_of_length_eq_zero HM.out.symm
      rw [← HH.out.2.1, h1]; rfl
    have HZ := Lib.hid hz
    clear hz
    go_wp2_with fail
    go_ret
    exact ⟨_, rfl, by rw [HZ.out, limbs_zero]; exact OwU_nil _ _, F1.out⟩
  · have e0 : ((m : Int) == 0) = false := by simpa using h0
    have hm0 : 0 < m := by omega
    clear h0
    go_wp2_with (at_make; refine wp_makeU rfl _ _ rfl _ _ 0 rfl rfl (by first | rfl | omega) (by first | rfl | omega) (by omega) w1.heap.size (Nat.le_refl _) ?_; intro w2 hown hgrow hsz; have HO := Lib.hid hown; have HG := Lib.hid hgrow; clear hown hgrow)
    go_loop [8, 9] (fun bv iv => bv = .int .u64 1 ∧ iv = .int .i64 0) (fun _ _ => 0)
    case atStart => exact ⟨rfl, rfl⟩
    case round =>
      obtain ⟨rfl, rfl⟩ := hrel
      go_wp2_with fail
      go_loopw [6, 7, 10] (fun ov cv iv wr => ∃ k : Nat, k ≤ m ∧ iv = .int .i64 (k : Int) ∧ cv = .int .u64 0 ∧ Hid (OwU wr w1.heap.size ov (ds.take k)) ∧ Hid (Fr [] w1 wr)) (fun _ _ iv _ => m - (intOf iv).toNat)
      case atStart => exact ⟨0, by omega, rfl, rfl, Lib.hid (by have h := HO.out; exact h), HG⟩
      case round =>
        obtain ⟨k, hk, rfl, rfl, HK, HF⟩ := hrel
        by_cases hkm : k = m
        · have hkm' := hkm.symm
          subst hkm'
          have HK2 : Hid (OwU wr w1.heap.size u6 ds) := Lib.hid (by have h := HK.out; rw [HM.out, List.take_length] at h; exact h)
          have HLD : Hid (ds.length ≤ 200000000) := Lib.hid (by rw [← HM.out]; omega)
          clear HK hkm
          go_wp2_with (at_builtin; refine wp_appendU rfl _ _ rfl w1.heap.size u6 ds rfl (HK2.out.keep0 ((Fr.refl [] wr).alloc _)) wr.heap.size 0 1 [0] rfl (by intro j hj; match j, hj with | 0, _ => simp [World.cell?_alloc_new]) (Bd.cons BW_pos Bd.nil) (by have := HLD.out; simp; omega) (by have := HF.out.size; simp; omega) ?_; intro v2 w3 ho hfr _ _; have HO3 := Lib.hid ho; have HF3 : Hid (Fr [] w1 w3) := Lib.hid ((HF.out.alloc _).trans_own (HK2.out.keep0 ((Fr.refl [] wr).alloc _)) hfr); clear ho hfr; go_simp)
          have HV : Hid (valD (ds ++ [0]) = val xs) := Lib.hid (by rw [valD_append, ← HH.out.2.1]; simp [valD])
          refine (limbsD_any v2 (ds ++ [0]) w3 HO3.out.sl (HH.out.1.snoc (by rw [DW_eq]; omega)) (by have := HLD.out; simp; omega)).mono ?_
          rintro e w4 ⟨v4, rfl, ho, hf⟩
          have HR := Lib.hid ho
          have F4 := Lib.hid ((F1.out.trans0 HF3.out).trans0 hf)
          have hb := (F1.out.trans0 HF3.out).size
          clear ho hf
          go_wp2
          go_ret
          exact ⟨v4, rfl, by have h := HR.out; rw [HV.out] at h; exact h.base_le hb, F4.out⟩
        · have hk2 : k < m := by omega
          obtain ⟨b, o, rfl, hce⟩ := HC.out (by omega)
          have h1 := hce k hk2
          have hx := HH.out.1.getD k
          have htk := take_succ_getD (xs := ds) (i := k) (by rw [← HM.out]; exact hk2)
          obtain ⟨x, hxd⟩ : ∃ x, x = ds.getD k 0 := ⟨_, rfl⟩
          rw [← hxd] at h1 hx htk
          rw [DW_eq] at hx
          have h2 : wr.cell? ⟨b, o + k, none⟩ = some (.int .u64 (x : Int)) := (HF.out.cell (World.block_lt_of_cell? w1 _ h1) (by simp)).trans h1
          have HTK := Lib.hid htk
          have HLK : Hid ((ds.take k).length ≤ 200000000) := Lib.hid (by rw [List.length_take]; omega)
          have HXB : Hid (x < BW) := Lib.hid (by rw [BW_eq]; omega)
          have e1 : (x : Int) % 4294967296 = (x : Int) := by omega
          have e2 : (x : Int) / 4294967296 = 0 := by omega
          clear hxd htk h1 hce hkm
          go_wp2_with (at_builtin; refine wp_appendU rfl _ _ rfl w1.heap.size u6 (ds.take k) rfl (HK.out.keep0 ((Fr.refl [] wr).alloc _)) wr.heap.size 0 1 [x] rfl (by intro j hj; match j, hj with | 0, _ => simp [World.cell?_alloc_new]) (Bd.cons HXB.out Bd.nil) (by have := HLK.out; simp; omega) (by have := HF.out.size; simp; omega) ?_; intro v' w2 ho hfr _ _; have HO2 := Lib.hid ho; have HF2 : Hid (Fr [] w1 w2) := Lib.hid ((HF.out.alloc _).trans_own (HK.out.keep0 ((Fr.refl [] wr).alloc _)) hfr); clear ho hfr)
          go_roundw
          case rel => exact ⟨k + 1, by omega, by go_num, by go_num, Lib.hid (by rw [HTK.out]; exact HO2.out), HF2⟩
          case measure => simp [intOf]; omega
end Go.Proofs.YtedoeadhbcjjgaaDoor

/- rosetteref00: NatBits, Zero, Top, Whole. -/
namespace Go.Proofs.YtedoeadhbcjjgaaDoor
open Go.RowKit

/-- N is how many bits a has. -/
def NB (a N : Nat) : Prop := (a = 0 ∧ N = 0) ∨ (1 ≤ N ∧ 2 ^ (N - 1) ≤ a ∧ a < 2 ^ N)
theorem NB.zero_iff {a N : Nat} (h : NB a N) : N = 0 ↔ a = 0 := by
  rcases h with ⟨rfl, rfl⟩ | ⟨h1, h2, _⟩
  · simp
  · have : 0 < 2 ^ (N - 1) := Nat.pow_pos (by omega)
    omega
theorem NB_of {a L j : Nat} (hL : (limbs a).length = L + 1) (hj : 1 ≤ j) (h1 : 2 ^ (j - 1) ≤ (limbs a).getD L 0) (h2 : (limbs a).getD L 0 < 2 ^ j) : NB a (64 * L + j) := by
  right
  have hv : a = val ((limbs a).take L) + BW ^ L * (limbs a).getD L 0 := by
    rw [← val_take_succ, val_take_of_le (by omega), val_limbs]
  have hlt : val ((limbs a).take L) < BW ^ L := by
    have := val_lt ((Bd_limbs a).take L)
    rwa [List.length_take, Nat.min_eq_left (by omega)] at this
  have hpow : BW ^ L = 2 ^ (64 * L) := by rw [BW_pow, ← Nat.pow_mul]
  refine ⟨by omega, ?_, ?_⟩
  · rw [show 64 * L + j - 1 = 64 * L + (j - 1) by omega, Nat.pow_add, ← hpow, hv]
    have := Nat.mul_le_mul_left (BW ^ L) h1
    omega
  · rw [Nat.pow_add, ← hpow]
    conv => lhs; rw [hv]
    have := Nat.mul_le_mul_left (BW ^ L) (show (limbs a).getD L 0 + 1 ≤ 2 ^ j from h2)
    rw [Nat.mul_add, Nat.mul_one] at this
    omega
theorem NB.le {a N : Nat} (h : NB a N) : N ≤ 64 * (limbs a).length := by
  rcases h with ⟨rfl, rfl⟩ | ⟨h1, h2, _⟩
  · omega
  · have h3 := limbs_lt a
    rw [BW_pow, ← Nat.pow_mul] at h3
    have h4 : 2 ^ (N - 1) < 2 ^ (64 * (limbs a).length) := by omega
    have := (Nat.pow_lt_pow_iff_right (show 1 < 2 by omega)).1 h4
    omega

def BitsPost (a : Nat) (w : World) (e : Ending) (w' : World) : Prop := ∃ N, NB a N ∧ e = .returned (.int .i64 (N : Int)) ∧ Fr [] w w'

set_option maxRecDepth 100000 in
set_option maxHeartbeats 4000000 in
theorem natBits_any (v : Value) (xs : List Nat) (w : World) (h : SlU w v xs) (hl : xs.length ≤ 100000000) :
    Calls Tryd.prog 83 #[v] w (BitsPost (val xs) w) := by
  have HS := Lib.hid h
  have HL := Lib.hid hl
  have HT : Hid (trimL xs = limbs (val xs)) := Lib.hid (limbs_val h.bd).symm
  have HTL : Hid ((limbs (val xs)).length ≤ 100000000) := Lib.hid (by rw [← HT.out]; have := trimL_length xs; omega)
  clear h hl
  go_enter Tryd.func83, Tryd.ntmps83
  go_wp2_with fail
  refine (natTrim_any v xs w HS.out (by have := HL.out; omega)).mono ?_
  rintro e w1 ⟨v', rfl, ho, hf⟩
  rw [HT.out] at ho
  have HO := Lib.hid ho.sl
  have F1 := Lib.hid hf
  obtain ⟨a, ha⟩ : ∃ a, a = val xs := ⟨_, rfl⟩
  rw [← ha] at ho HO HTL ⊢
  obtain ⟨A, c, rfl, hc, hcell⟩ := ho.sl.open_
  obtain ⟨m, hm⟩ : ∃ m, m = (limbs a).length := ⟨_, rfl⟩
  rw [← hm] at hc hcell HO HTL ⊢
  have HM := Lib.hid hm
  have hmb := HTL.out
  have HC := Lib.hid hcell
  have HA := Lib.hid ha
  clear ho hf hm hcell ha HT
  by_cases h0 : m = 0
  · have e0 : ((m : Int) == 0) = true := by simp [h0]
    have HZ : Hid (a = 0) := Lib.hid (limbs_eq_nil.1 (List.eq_nil_of_length_eq_zero (by rw [← HM.out]; exact h0)))
    clear h0
    go_wp2_with fail
    go_ret
    exact ⟨0, .inl ⟨by rw [← HA.out]; exact HZ.out, rfl⟩, rfl, F1.out⟩
  · have e0 : ((m : Int) == 0) = false := by simpa using h0
    have hm0 : 0 < m := by omega
    obtain ⟨b, o, rfl, hce⟩ := HC.out hm0
    have h1 := hce (m - 1) (by omega)
    have htop := limbs_top (n := a) (by rintro rfl; rw [limbs_zero] at HM; simp at HM; have := HM.out; omega)
    rw [← HM.out] at htop
    have hbt := (Bd_limbs a).getD (m - 1)
    obtain ⟨t, ht⟩ : ∃ t, t = (limbs a).getD (m - 1) 0 := ⟨_, rfl⟩
    rw [← ht] at h1 htop hbt
    have HT := Lib.hid ht
    rw [BW_eq] at hbt
    clear h0 hce ht
    go_wp2_with fail
    go_loop [4, 5] (fun nv tv => ∃ j s : Nat, j ≤ 64 ∧ nv = .int .i64 (64 * ((m : Int) - 1) + j) ∧ tv = .int .u64 (s : Int) ∧ Hid (s = t / 2 ^ j) ∧ Hid (j = 0 ∨ t / 2 ^ (j - 1) ≠ 0)) (fun _ tv => (intOf tv).toNat)
    case atStart => exact ⟨0, t, by omega, by simp, rfl, Lib.hid (by simp), Lib.hid (.inl rfl)⟩
    case round =>
      obtain ⟨j, s, hj, rfl, rfl, HS2, HJ⟩ := hrel
      by_cases hs : s = 0
      · have hfin : NB a (64 * (m - 1) + j) := by
          have h2 := HS2.out
          rw [hs] at h2
          have hj1 : 1 ≤ j := by
            rcases Nat.eq_zero_or_pos j with h | h
            · subst h; simp at h2; omega
            · exact h
          have h3 : t < 2 ^ j := (Nat.div_eq_zero_iff_lt (Nat.pow_pos (by omega))).1 h2.symm
          have h4 : 2 ^ (j - 1) ≤ t := by
            rcases HJ.out with h | h
            · omega
            · rcases Nat.lt_or_ge t (2 ^ (j - 1)) with h5 | h5
              · exact absurd (Nat.div_eq_of_lt h5) h
              · exact h5
          exact NB_of (by rw [← HM.out]; omega) hj1 (by rw [← HT.out]; exact h4) (by rw [← HT.out]; exact h3)
        have HFIN := Lib.hid hfin
        subst hs
        clear hfin
        go_wp2_with fail
        go_ret
        exact ⟨64 * (m - 1) + j, by rw [← HA.out]; exact HFIN.out, congrArg (fun z => Ending.returned (.int .i64 z)) (by omega), F1.out⟩
      · have hs0 : 0 < s := by omega
        have hst : s ≤ t := by rw [HS2.out]; exact Nat.div_le_self _ _
        have hj64 : j < 64 := by
          rcases Nat.lt_or_ge j 64 with h | h
          · exact h
          · exfalso
            have h2 : t < 2 ^ j := Nat.lt_of_lt_of_le (show t < 2 ^ 64 from hbt) (Nat.pow_le_pow_right (by omega) h)
            have := HS2.out
            rw [Nat.div_eq_of_lt h2] at this
            omega
        have HN2 : Hid (s / 2 = t / 2 ^ (j + 1)) := Lib.hid (by rw [HS2.out, Nat.div_div_eq_div_mul, Nat.pow_succ])
        have HJ2 : Hid (t / 2 ^ (j + 1 - 1) ≠ 0) := Lib.hid (by rw [Nat.add_sub_cancel, ← HS2.out]; exact hs)
        clear hs
        go_wp2_with fail
        go_round
        case rel => exact ⟨j + 1, s / 2, by omega, by go_num, by go_num, HN2, Lib.hid (.inr HJ2.out)⟩
        case measure => simp [intOf]; omega

/-- A number of the reference: its sign, its limbs, its exponent 0. -/
def NumV (w : World) (v : Value) (neg : Bool) (xs : List Nat) : Prop := ∃ A c, v = .agg #[.bool neg, .slice A xs.length c, .int .i64 0] ∧ SlU w (.slice A xs.length c) xs
end Go.Proofs.YtedoeadhbcjjgaaDoor
