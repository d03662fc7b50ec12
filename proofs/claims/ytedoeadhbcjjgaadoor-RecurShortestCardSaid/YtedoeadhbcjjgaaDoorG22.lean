/- Joined by program (merge.py) out of 1 texts, a part of the proof: contracts of the functions that the statement reaches, and plain mathematics. No statement of the seat stands here. -/
import Derived.Test.YtedoeadhbcjjgaaDoorG21
/- recur.product. -/
namespace Go.Proofs.YtedoeadhbcjjgaaDoor
open Go.RowKit

theorem AllB.mono {B C : Nat} {zs : List Int} (h : AllB B zs) (hBC : B ≤ C) : AllB C zs := fun i => Nat.le_trans (h i) hBC
theorem AllB.zeros (n B : Nat) : AllB B (List.replicate n 0) := by
  intro i
  have : (List.replicate n (0 : Int)).getD i 0 = 0 := by
    by_cases h : i < n <;> simp [List.getD, List.getElem?_replicate, h]
  rw [this]; simp [limbs_zero]
theorem prodK_B {ps qs : List Int} (hp : AllB 100 ps) (hq : AllB 100 qs) (i : Nat) {out : List Int} {b : Nat} (h : AllB b out) : ∀ k, AllB (b + 201 * k) (prodK ps qs i out k)
  | 0 => h
  | k + 1 => by
    have ih := prodK_B hp hq i h k
    refine (ih.mono (by omega)).set _ ?_
    have h1 := ih (i + k)
    have h2 := limbs_mul_len (ps.getD i 0).natAbs (qs.getD k 0).natAbs
    have h3 := limbs_add_len ((prodK ps qs i out k).getD (i + k) 0).natAbs ((ps.getD i 0).natAbs * (qs.getD k 0).natAbs)
    have h4 := limbs_length_mono (Int.natAbs_add_le ((prodK ps qs i out k).getD (i + k) 0) (ps.getD i 0 * qs.getD k 0))
    rw [Int.natAbs_mul] at h4
    have h5 := hp i
    have h6 := hq k
    omega
theorem prodI_B {ps qs : List Int} (hp : AllB 100 ps) (hq : AllB 100 qs) {out : List Int} (h : AllB 0 out) : ∀ i, AllB (201 * qs.length * i) (prodI ps qs out i)
  | 0 => h
  | i + 1 => by
    have ih := prodI_B hp hq h i
    rw [prodI]
    exact (prodK_B hp hq i ih qs.length).mono (by rw [Nat.mul_add, Nat.mul_one]; omega)
theorem modAll_at (M : Int) (out : List Int) (j : Nat) : ∀ k, (modAll M out k).getD j 0 = if j < k ∧ j < out.length then out.getD j 0 % M else out.getD j 0
  | 0 => by rw [if_neg (by omega)]; rfl
  | k + 1 => by
    rw [modAll, getD_set, modAll_length]
    by_cases h1 : k = j
    · subst h1
      by_cases h2 : k < out.length
      · rw [if_pos ⟨rfl, h2⟩, modAll_at M out k k, if_neg (by omega), if_pos ⟨by omega, h2⟩]
      · rw [if_neg (fun h => h2 h.2), modAll_at M out k k, if_neg (fun h => h2 h.2), if_neg (fun h => h2 h.2)]
    · rw [if_neg (fun h => h1 h.1), modAll_at M out j k]
      by_cases h2 : j < k ∧ j < out.length
      · rw [if_pos h2, if_pos ⟨by omega, h2.2⟩]
      · rw [if_neg h2, if_neg (by omega)]
theorem modAll_B {M : Int} (hM : 0 < M) {B : Nat} (hB : (limbs M.natAbs).length ≤ B) (out : List Int) : AllB B (modAll M out out.length) := by
  intro j
  rw [modAll_at]
  by_cases h : j < out.length ∧ j < out.length
  · rw [if_pos h]; exact limbs_mod_len hM hB _
  · rw [if_neg h, show out.getD j 0 = 0 by simp only [List.getD]; rw [List.getElem?_eq_none (by omega)]; rfl]; simp [limbs_zero]

def optrs (gs : List Nat) (n : Nat) : List Value := ptrs gs ++ List.replicate (n - gs.length) (.pointer none)
theorem optrs_length {gs : List Nat} {n : Nat} (h : gs.length ≤ n) : (optrs gs n).length = n := by simp [optrs, ptrs_length]; omega
theorem optrs_set {gs : List Nat} {n : Nat} (h : gs.length < n) (g : Nat) : (optrs gs n).set gs.length (.pointer (some ⟨g, 0, none⟩)) = optrs (gs ++ [g]) n := by
  unfold optrs
  rw [List.set_append_right _ _ (by rw [ptrs_length]; exact Nat.le_refl _), ptrs_length, Nat.sub_self]
  obtain ⟨d, hd⟩ : ∃ d, n - gs.length = d + 1 := ⟨n - gs.length - 1, by omega⟩
  have hd2 : n - (gs ++ [g]).length = d := by simp; omega
  rw [hd, hd2, List.replicate_succ, List.set_cons_zero, ptrs_append, List.append_assoc]
  rfl
theorem optrs_full {gs : List Nat} {n : Nat} (h : gs.length = n) : optrs gs n = ptrs gs := by
  unfold optrs; rw [h, Nat.sub_self]; simp
/-- A full row of n pointers, the first ones set. -/
def OwO (w : World) (base g n : Nat) (gs : List Nat) : Prop := gs.length ≤ n ∧ w.ownsRow base 35 1 (.slice (some ⟨g, 0, none⟩) n n) n (optrs gs n)
theorem OwO.keep {w w' : World} {base g n : Nat} {gs S : List Nat} (h : OwO w base g n gs) (f : Fr S w w') (hg : g ∉ S) : OwO w' base g n gs :=
  ⟨h.1, own_keep h.2 f (by intro k hk; simp [Value.ownBlock] at hk; subst hk; exact hg)⟩
theorem OwO.store {w : World} {base g n : Nat} {gs : List Nat} (h : OwO w base g n gs) (hlt : gs.length < n) (p : Nat) : OwO (w.setCell ⟨g, gs.length, none⟩ (.pointer (some ⟨p, 0, none⟩))) base g n (gs ++ [p]) := by
  refine ⟨by simp; omega, ?_⟩
  have := (h.2.stored gs.length (.pointer (some ⟨p, 0, none⟩))).1
  rwa [optrs_set hlt] at this
theorem OwO.blk {w : World} {base g n : Nat} {gs : List Nat} (h : OwO w base g n gs) (hn : 0 < n) : ∃ cs, w.heap[g]? = some (.cells cs 35 (0, 0)) ∧ g < w.heap.size ∧ base ≤ g := by
  rcases h.2.2 with ⟨e, _⟩ | ⟨g', cap, cur, e, hb, hh, _⟩
  · simp at e
  · simp only [Value.slice.injEq, Option.some.injEq, Addr.mk.injEq, and_true, true_and] at e
    obtain ⟨rfl, _⟩ := e
    exact ⟨_, hh, (Array.getElem?_eq_some_iff.1 hh).1, hb⟩
theorem OwO.free {w : World} {base g n : Nat} {gs : List Nat} (h : OwO w base g n gs) (hn : 0 < n) (j : Nat) : w.frozen? ⟨g, j, none⟩ = false := by
  obtain ⟨cs, hh, _⟩ := h.blk hn
  exact frozen_of_row w g j _ _ hh
theorem OwO.cell {w : World} {base g n : Nat} {gs : List Nat} (h : OwO w base g n gs) {j : Nat} (hj : j < n) : ∃ u, w.cell? ⟨g, j, none⟩ = some u := by
  rcases h.2.2 with ⟨e, _⟩ | ⟨g', cap, cur, e, hb, hh, hnc, _, hcs, _⟩
  · simp at e
  · simp only [Value.slice.injEq, Option.some.injEq, Addr.mk.injEq, and_true, true_and] at e
    obtain ⟨rfl, rfl⟩ := e
    exact ⟨cur[j]'(by rw [hcs]; omega), by rw [cell_of_row w g j cur _ _ hh]; simp [hcs, hj]⟩
theorem OwO.owp {w : World} {base g n : Nat} {gs : List Nat} (h : OwO w base g n gs) (hl : gs.length = n) : OwP w base (.slice (some ⟨g, 0, none⟩) n n) gs := by
  have h2 := h.2
  rw [optrs_full hl] at h2
  unfold OwP; rw [hl]; exact h2
theorem madeP (n : Nat) : (madeCells (Value.pointer none).cells (n * 1)).toList = optrs [] n := by
  rw [show (Value.pointer none).cells = #[Value.pointer none] from rfl, toList_madeCells_one, Nat.mul_one]; simp [optrs, ptrs]

section
variable {w : World} {ops : Array Oper} {rest : List Oper} {o : Oper} {a : Act} {Q : Exit → Act → World → Prop}
theorem wp_makeP (hg : o.guard = none) (l c : Operand) (hop : o.op = Op.makeSlice 61 l c) (L C : Int) (n : Nat) (hl : a.eval l = .int .i64 L) (hc : a.eval c = .int .i64 C) (hL : L = (n : Int)) (hC : C = (n : Int))
    (hn : n ≤ 1000000) (base : Nat) (hb : base ≤ w.heap.size)
    (hK : ∀ w', OwO w' base w.heap.size n [] → Fr [] w w' → w.heap.size < w'.heap.size → wpList Tryd.prog ops Q rest (a.put o.dst (.slice (some ⟨w.heap.size, 0, none⟩) n n)) w') :
    wpList Tryd.prog ops Q (o :: rest) a w := by
  obtain ⟨i0, hi, hz0, hz1, hz2⟩ := info_parts infoP
  refine wpList_make_full w hg l c 61 hop base 35 i0 (.pointer none) 1 Tryd.underlying61 hi hz0 hz1 _ _ L C n hl hc hL hC (by rw [hz2]; omega) (by unfold maxLen; omega) hb ?_
  intro w1 hown hgrow
  rw [madeP] at hown
  exact hK w1 ⟨by simp, hown⟩ (Fr.of_grown hgrow) (hown.lt w.heap.size rfl).2
end

def ProdPost (zs : List Int) (w : World) (e : Ending) (w' : World) : Prop := ∃ v' gs, e = .returned v' ∧ OwP w' w.heap.size v' gs ∧ BigRow w' gs zs ∧ gs.Nodup ∧ (∀ g ∈ gs, w.heap.size ≤ g) ∧ Fr [] w w'

set_option maxRecDepth 1000000 in
set_option maxHeartbeats 8000000 in
theorem product_any (pv qv rv : Value) (gp gq hs : List Nat) (gm : Nat) (ps qs rs : List Int) (M : Int) (b1 b2 b3 : Nat) (w : World) (hp : OwP w b1 pv gp) (hq : OwP w b2 qv gq) (hr : OwP w b3 rv hs) (hbp : BigRow w gp ps) (hbq : BigRow w gq qs) (hbr : BigRow w hs rs) (hm : BigAt w gm M) (hM : 0 < M)
    (hl1 : gp.length ≤ 128) (hl2 : gq.length ≤ 128) (hl3 : hs.length ≤ 1000) (hB1 : AllB 100 ps) (hB2 : AllB 100 qs) (hB3 : AllB 1000 rs) (hB4 : (limbs M.natAbs).length ≤ 100) :
    Calls Tryd.prog 40 #[pv, qv, rv, .pointer (some ⟨gm, 0, none⟩)] w (ProdPost (productZ ps qs rs M) w) := by
  obtain ⟨np, hnp⟩ : ∃ np, np = gp.length := ⟨_, rfl⟩
  obtain ⟨nq, hnq⟩ : ∃ nq, nq = gq.length := ⟨_, rfl⟩
  have HP := Lib.hid hp
  have HQ := Lib.hid hq
  have HR := Lib.hid hr
  have HBP := Lib.hid hbp
  have HBQ := Lib.hid hbq
  have HBR := Lib.hid hbr
  have HM := Lib.hid hm
  have HB := Lib.hid (And.intro hB1 (And.intro hB2 (And.intro hB3 (And.intro hB4 (And.intro hM hl3)))))
  obtain ⟨A, ca, rfl, hca, hxa⟩ := hp.open_
  obtain ⟨B, cb, rfl, hcb, hxb⟩ := hq.open_
  rw [← hnp] at hca hxa hl1 HP ⊢
  rw [← hnq] at hcb hxb hl2 HQ ⊢
  have HNP : Hid (gp.length = np ∧ ps.length = np) := Lib.hid ⟨hnp.symm, by rw [hnp]; exact hbp.1.symm⟩
  have HNQ : Hid (gq.length = nq ∧ qs.length = nq) := Lib.hid ⟨hnq.symm, by rw [hnq]; exact hbq.1.symm⟩
  have HXA := Lib.hid hxa
  have HXB := Lib.hid hxb
  clear hp hq hr hbp hbq hbr hm hB1 hB2 hB3 hB4 hM hl3 hnp hnq hxa hxb
  obtain ⟨n, hn⟩ : ∃ n, n = np + nq := ⟨_, rfl⟩
  have e1 : (np : Int) + (nq : Int) = (n : Int) := by omega
  have HN := Lib.hid hn
  have hnb : n ≤ 256 := by omega
  clear hn
  go_enter Tryd.func40, Tryd.ntmps40
  go_wp2_with (at_make; refine wp_makeP rfl _ _ rfl _ _ n rfl rfl (by first | rfl | exact e1 | omega) (by first | rfl | exact e1 | omega) (by omega) w.heap.size (Nat.le_refl _) ?_; intro w1 hown hgrow hsz; have HO := Lib.hid hown; have HG := Lib.hid hgrow; clear hown hgrow)
  obtain ⟨go, hgo⟩ : ∃ go, go = w.heap.size := ⟨_, rfl⟩
  rw [← hgo] at HO hsz ⊢
  have HGO := Lib.hid hgo
  clear hgo
  go_loopw [25] (fun iv wr => ∃ k os, k ≤ n ∧ iv = .int .i64 (k : Int) ∧ Hid (os.length = k ∧ os.Nodup ∧ ∀ g ∈ os, w1.heap.size ≤ g) ∧ Hid (OwO wr go go n os) ∧ Hid (BigRow wr os (List.replicate k 0)) ∧ Hid (Fr [go] w1 wr)) (fun iv _ => n - (intOf iv).toNat)
  case atStart => exact ⟨0, [], by omega, rfl, Lib.hid (by simp), HO, Lib.hid (BigRow.nil _), Lib.hid (Fr.refl _ _)⟩
  case round =>
    obtain ⟨k, os, hk, rfl, HOS, HOW, HBO, HF⟩ := hrel
    by_cases hkn : k = n
    · have hkn' := hkn.symm
      subst hkn'
      obtain ⟨w2, rfl⟩ : ∃ w2 : World, w2 = wr := ⟨_, rfl⟩
      have FW : Hid (Fr [] w w2) := Lib.hid (HG.out.own1 HF.out (by rw [HGO.out]; exact Nat.le_refl _))
      have HOP2 := Lib.hid (HOW.out.owp HOS.out.1)
      have hOSW : ∀ g ∈ os, w.heap.size ≤ g := fun g hg => Nat.le_trans HG.out.size (HOS.out.2.2 g hg)
      have HOSW := Lib.hid hOSW
      have HOSL : Hid (os.length = n) := Lib.hid HOS.out.1
      have HNDP : Hid os.Nodup := Lib.hid HOS.out.2.1
      have HOSI : Hid (AreInts w2 os) := Lib.hid HBO.out.areInts
      have HZ0 : Hid (BigRow w2 os (prodI ps qs (List.replicate n 0) 0)) := HBO
      have HZB : Hid (AllB 0 (List.replicate n (0 : Int))) := Lib.hid (AllB.zeros n 0)
      clear hkn hk hOSW HOW HOS HBO
      go_wp2_with fail
      go_loopw [35] (fun iv wi => ∃ i : Nat, i ≤ np ∧ iv = .int .i64 (i : Int) ∧ Hid (BigRow wi os (prodI ps qs (List.replicate n 0) i)) ∧ Hid (Fr os w2 wi)) (fun iv _ => np - (intOf iv).toNat)
      case atStart => exact ⟨0, by omega, rfl, HZ0, Lib.hid (Fr.refl _ _)⟩
      case round =>
        obtain ⟨i, hi, rfl, HI, HFI⟩ := hrel
        obtain ⟨wi, rfl⟩ : ∃ wi : World, wi = wr := ⟨_, rfl⟩
        have FWi : Hid (Fr [] w wi) := Lib.hid (FW.out.trans HFI.out (by intro x hx hlt; have := HOSW.out x hx; omega))
        by_cases hip : i = np
        · have hip' := hip.symm
          subst hip'
          obtain ⟨zs, hzs⟩ : ∃ zs, zs = prodI ps qs (List.replicate n 0) np := ⟨_, rfl⟩
          have hzl : zs.length = n := by rw [hzs, prodI_length, List.length_replicate]
          have hzb : AllB 10000000 zs := by
            rw [hzs]
            refine (prodI_B HB.out.1 HB.out.2.1 HZB.out np).mono ?_
            rw [HNQ.out.2]
            have : 201 * nq * np ≤ 201 * 128 * 128 := Nat.mul_le_mul (Nat.mul_le_mul_left _ hl2) hl1
            omega
          rw [← hzs] at HI
          have HZS := Lib.hid hzs
          have HZL := Lib.hid hzl
          have HZBB := Lib.hid hzb
          clear hip hi hzs hzl hzb
          go_wp2_with fail
          go_loopw [68] (fun kv wk => ∃ k : Nat, k ≤ n ∧ kv = .int .i64 (k : Int) ∧ Hid (BigRow wk os (modAll M zs k)) ∧ Hid (Fr os w2 wk)) (fun kv _ => n - (intOf kv).toNat)
          case atStart => exact ⟨0, by omega, rfl, HI, HFI⟩
          case round =>
            obtain ⟨k, hk, rfl, HK, HFK⟩ := hrel
            obtain ⟨wk, rfl⟩ : ∃ wk : World, wk = wr := ⟨_, rfl⟩
            have FWk : Hid (Fr [] w wk) := Lib.hid (FW.out.trans HFK.out (by intro x hx hlt; have := HOSW.out x hx; omega))
            have HOPk : Hid (OwP wk go (.slice (some ⟨go, 0, none⟩) n n) os) := Lib.hid (HOP2.out.keepI HFK.out HOSI.out)
            by_cases hkn : k = n
            · have hkn' := hkn.symm
              subst hkn'
              have HKF : Hid (BigRow wk os (modAll M zs zs.length)) := Lib.hid (by rw [HZL.out]; exact HK.out)
              have HEQ : Hid (productZ ps qs rs M = moduloZ (modAll M zs zs.length) rs M) := Lib.hid (by
                unfold productZ
                rw [HNP.out.2, HNQ.out.2, ← HN.out, HZL.out, HZS.out])
              have HDIS : Hid (∀ g ∈ os, g ∉ hs) := Lib.hid (fun g hg hm => by have h1 := HOSW.out g hg; have h2 := HBR.out.lt hm; omega)
              have HGM : Hid (gm ∉ os) := Lib.hid (fun hm => by have h1 := HOSW.out gm hm; have h2 := HM.out.lt; omega)
              have hszk := FWk.out.size
              clear hkn hk HK
              go_wp2_with fail
              refine (modulo_any _ rv os hs gm (modAll M zs zs.length) rs M go b3 wk HOPk.out (HR.out.keep0 FWk.out) HKF.out (HBR.out.keep0 FWk.out) (HM.out.keep0 FWk.out) HB.out.2.2.2.2.1 HNDP.out HDIS.out HGM.out (by rw [HOSL.out]; omega) HB.out.2.2.2.2.2 ((modAll_B HB.out.2.2.2.2.1 HB.out.2.2.2.1 zs).mono (by omega)) HB.out.2.2.1 (by have := HB.out.2.2.2.1; omega)).mono ?_
              rintro e w9 ⟨v9, rfl, ho, hb, hf⟩
              have HO9 := Lib.hid ho
              have HB9 := Lib.hid hb
              have F9 : Hid (Fr [] w w9) := Lib.hid (FWk.out.trans hf (by intro x hx hlt; have := HOSW.out x hx; omega))
              clear ho hb hf
              go_wp2
              go_ret
              refine ⟨v9, _, rfl, by rw [← HGO.out]; exact HO9.out, by rw [HEQ.out]; exact HB9.out, HNDP.out.sublist (List.take_sublist _ _), fun g hg => HOSW.out g (List.mem_of_mem_take hg), F9.out⟩
            · have hk2 : k < n := by omega
              have hc := HOPk.out.cells (j := k) (by rw [HOSL.out]; exact hk2)
              have hgb := HK.out.2 k (by rw [HOSL.out]; exact hk2)
              have hzk : (modAll M zs k).getD k 0 = zs.getD k 0 := by rw [modAll_at, if_neg (by omega)]
              have hnx : modAll M zs (k + 1) = (modAll M zs k).set k ((modAll M zs k).getD k 0 % M) := rfl
              have hlz := HZBB.out k
              rw [hzk] at hgb hnx
              have HSETR : Hid (∀ (w' : World) (z : Int), Fr [os.getD k 0] wk w' → BigAt w' (os.getD k 0) z → BigRow w' os ((modAll M zs k).set k z)) := Lib.hid (fun w' z f hz => HK.out.set HNDP.out (by rw [HOSL.out]; exact hk2) rfl f hz)
              have hgin : os.getD k 0 ∈ os := by rw [show os.getD k 0 = os[k]'(by rw [HOSL.out]; exact hk2) by simp [List.getD, show k < os.length by rw [HOSL.out]; exact hk2]]; exact List.getElem_mem _
              obtain ⟨g, hg⟩ : ∃ g, g = os.getD k 0 := ⟨_, rfl⟩
              obtain ⟨z, hz⟩ : ∃ z, z = zs.getD k 0 := ⟨_, rfl⟩
              rw [← hg] at hc hgb HSETR hgin
              rw [← hz] at hgb hnx hlz
              have HGB := Lib.hid hgb
              have HNX := Lib.hid hnx
              have HLZ := Lib.hid hlz
              have HGIN := Lib.hid hgin
              clear hg hz hzk hgb hnx hlz hgin hkn
              go_wp2_with fail
              refine (mod_any g g gm z M wk HGB.out.blk HGB.out (HM.out.keep0 FWk.out) (by have := HLZ.out; omega) (by have := HB.out.2.2.2.1; omega) HB.out.2.2.2.2.1).mono ?_
              rintro e w8 ⟨rfl, hb, hf⟩
              have HROW : Hid (BigRow w8 os (modAll M zs (k + 1))) := Lib.hid (by rw [HNX.out]; exact HSETR.out w8 _ hf hb)
              have HF8 : Hid (Fr os w2 w8) := Lib.hid (HFK.out.trans hf (by intro x hx _; simp only [List.mem_singleton] at hx; rw [hx]; exact HGIN.out))
              clear hb hf
              go_wp2_with fail
              go_roundw
              case rel => exact ⟨k + 1, by omega, by go_num, HROW, HF8⟩
              case measure => simp [intOf]; omega
        · have hi2 : i < np := by omega
          obtain ⟨ba, rfl, hxa⟩ := HXA.out (by omega)
          have hcx := (FWi.out.cell (p := ⟨ba, i, none⟩) (World.block_lt_of_cell? w _ (hxa i hi2)) (by simp)).trans (hxa i hi2)
          have hgx := (HBP.out.2 i (by rw [HNP.out.1]; exact hi2))
          have hlx := HB.out.1 i
          obtain ⟨gx, hgxd⟩ : ∃ g, g = gp.getD i 0 := ⟨_, rfl⟩
          obtain ⟨x, hx⟩ : ∃ x, x = ps.getD i 0 := ⟨_, rfl⟩
          rw [← hgxd] at hcx hgx
          rw [← hx] at hgx hlx
          have HGX := Lib.hid hgx
          have HLX := Lib.hid hlx
          have HXX := Lib.hid hx
          obtain ⟨zs, hzs⟩ : ∃ zs, zs = prodI ps qs (List.replicate n 0) i := ⟨_, rfl⟩
          have HZL : Hid (zs.length = n) := Lib.hid (by rw [hzs, prodI_length, List.length_replicate])
          have HZB2 : Hid (AllB (201 * qs.length * i) zs) := Lib.hid (by rw [hzs]; exact prodI_B HB.out.1 HB.out.2.1 HZB.out i)
          rw [← hzs] at HI
          have HZS := Lib.hid hzs
          clear hxa hgx hlx hgxd hx hzs hip
          go_wp2_with fail
          go_loopw [42] (fun kv wk => ∃ k : Nat, k ≤ nq ∧ kv = .int .i64 (k : Int) ∧ Hid (BigRow wk os (prodK ps qs i zs k)) ∧ Hid (Fr os w2 wk)) (fun kv _ => nq - (intOf kv).toNat)
          case atStart => exact ⟨0, by omega, rfl, HI, HFI⟩
          case round =>
            obtain ⟨k, hk, rfl, HK, HFK⟩ := hrel
            obtain ⟨wk, rfl⟩ : ∃ wk : World, wk = wr := ⟨_, rfl⟩
            have FWk : Hid (Fr [] w wk) := Lib.hid (FW.out.trans HFK.out (by intro x hx hlt; have := HOSW.out x hx; omega))
            by_cases hkq : k = nq
            · have hkq' := hkq.symm
              subst hkq'
              have HNXT : Hid (BigRow wk os (prodI ps qs (List.replicate n 0) (i + 1))) := Lib.hid (by
                rw [prodI, HNQ.out.2, ← HZS.out]; exact HK.out)
              clear hkq hk HK
              go_wp2_with fail
              go_roundw
              case rel => exact ⟨i + 1, by omega, by go_num, HNXT, HFK⟩
              case measure => simp [intOf]; omega
            · have hk2 : k < nq := by omega
              obtain ⟨bb, rfl, hxb⟩ := HXB.out (by omega)
              have hcy := (FWk.out.cell (p := ⟨bb, k, none⟩) (World.block_lt_of_cell? w _ (hxb k hk2)) (by simp)).trans (hxb k hk2)
              have hgy := (HBQ.out.2 k (by rw [HNQ.out.1]; exact hk2)).keep0 FWk.out
              have hly := HB.out.2.1 k
              obtain ⟨s, hs⟩ : ∃ s, s = i + k := ⟨_, rfl⟩
              have hsn : s < n := by have := HN.out; omega
              have HOPk : Hid (OwP wk go (.slice (some ⟨go, 0, none⟩) n n) os) := Lib.hid (HOP2.out.keepI HFK.out HOSI.out)
              have hco := HOPk.out.cells (j := s) (by rw [HOSL.out]; exact hsn)
              have hgo2 := World.block_lt_of_cell? wk _ hco
              have hgz := HK.out.2 s (by rw [HOSL.out]; exact hsn)
              have hlz := prodK_B HB.out.1 HB.out.2.1 i HZB2.out k s
              have hlz2 : 201 * qs.length * i + 201 * k ≤ 5000000 := by
                rw [HNQ.out.2]
                have h1 : 201 * nq * i ≤ 201 * 128 * 128 := Nat.mul_le_mul (Nat.mul_le_mul_left _ hl2) (by omega)
                omega
              have hnx : prodK ps qs i zs (k + 1) = (prodK ps qs i zs k).set (i + k) ((prodK ps qs i zs k).getD (i + k) 0 + ps.getD i 0 * qs.getD k 0) := rfl
              rw [← hs, ← HXX.out] at hnx
              have HSETR : Hid (∀ (w' : World) (z : Int), Fr [os.getD s 0] wk w' → BigAt w' (os.getD s 0) z → BigRow w' os ((prodK ps qs i zs k).set s z)) := Lib.hid (fun w' z f hz => HK.out.set HNDP.out (by rw [HOSL.out]; exact hsn) rfl f hz)
              have hgin : os.getD s 0 ∈ os := by rw [show os.getD s 0 = os[s]'(by rw [HOSL.out]; exact hsn) by simp [List.getD, show s < os.length by rw [HOSL.out]; exact hsn]]; exact List.getElem_mem _
              obtain ⟨gy, hgyd⟩ : ∃ g, g = gq.getD k 0 := ⟨_, rfl⟩
              obtain ⟨y, hy⟩ : ∃ y, y = qs.getD k 0 := ⟨_, rfl⟩
              obtain ⟨g, hg⟩ : ∃ g, g = os.getD s 0 := ⟨_, rfl⟩
              obtain ⟨z, hz⟩ : ∃ z, z = (prodK ps qs i zs k).getD s 0 := ⟨_, rfl⟩
              rw [← hgyd] at hcy hgy
              rw [← hy] at hgy hly hnx
              rw [← hg] at hco hgz HSETR hgin
              rw [← hz] at hgz hlz hnx
              have HGY := Lib.hid hgy
              have HGZ := Lib.hid hgz
              have HNX := Lib.hid hnx
              have HGIN := Lib.hid hgin
              have hmul := limbs_mul_len x.natAbs y.natAbs
              have HLL : Hid ((limbs y.natAbs).length ≤ 100 ∧ (limbs z.natAbs).length ≤ 5000000 ∧ (limbs (x * y).natAbs).length ≤ 300) := Lib.hid ⟨hly, by omega, by rw [Int.natAbs_mul]; have := HLX.out; omega⟩
              have e5 : IntKind.i64.wrap ((i : Int) + k) = (s : Int) := by rw [show (i : Int) + k = (s : Int) by omega]; exact IntWalk.i64_in _ (by omega)
              have e6 : (s : Int) < n := by omega
              clear hxb hgy hly hs hgz hlz hlz2 hnx hgin hgyd hy hg hz hmul hkq
              go_wp2_with fail
              refine wp_region_lexP [(0, false), (1, false), (2, false), (3, false), (4, false), (5, false), (6, false), (7, false), (8, false), (9, false), (10, false), (11, false), (13, false), (14, false), (12, true), (15, true), (16, true)] (fun w' => w'.cell? ⟨go, s, none⟩ = some (.pointer (some ⟨g, 0, none⟩))) 16 (by kernel_rfl) (by kernel_rfl) (fun _ _ d _ _ h => by cases d <;> exact h) hco ?_
              iterate 14 (refine lexP_yield (by rfl) (by rfl) (by intro w hSw; (try dsimp only at hSw); go_simp; (try rfl)) ?_; simp only [Act.put, List.setIfInBounds_toArray, List.set_cons_zero, List.set_cons_succ])
              refine lexP_step (by rfl) (by rfl) (fun K hK => ?_)
              go_simp
              obtain ⟨w8, hw8⟩ : ∃ w8, w8 = (wk.alloc (.cells #[.bool false, .slice none 0 0] 38)).drew := ⟨_, rfl⟩
              have F8 : Hid (Fr [] wk w8) := Lib.hid (by rw [hw8]; exact ((Fr.refl [] wk).alloc _).drew)
              have HN8 : Hid (BigAt w8 wk.heap.size 0) := Lib.hid (by rw [hw8]; exact (BigAt_new wk).keep0 (Fr.refl [] _).drew)
              rw [← hw8]
              refine hK.out _ _ (fun _ => (F8.out.cell (p := ⟨go, s, none⟩) hgo2 (by simp)).trans hco) ?_
              clear hK K hw8
              try simp only [Act.put, List.setIfInBounds_toArray, List.set_cons_zero, List.set_cons_succ]
              refine lexP_step (by rfl) (by rfl) (fun K hK => ?_)
              go_simp
              go_at_call 29
              refine (mul_any wk.heap.size gx gy x y _ HN8.out.blk ((HGX.out.keep0 FWk.out).keep0 F8.out) (HGY.out.keep0 F8.out) (by have := HLX.out; omega) (by have := HLL.out; omega)).mono ?_
              rintro e w9 ⟨rfl, hb, hf⟩
              have HM9 := Lib.hid hb
              have F9 : Hid (Fr [] wk w9) := Lib.hid (F8.out.own1 hf (Nat.le_refl _))
              clear hb hf
              refine hK.out _ _ (fun _ => (F9.out.cell (p := ⟨go, s, none⟩) hgo2 (by simp)).trans hco) ?_
              clear hK K
              try simp only [Act.put, List.setIfInBounds_toArray, List.set_cons_zero, List.set_cons_succ]
              refine lexP_step (by rfl) (by rfl) (fun K hK => ?_)
              go_simp
              go_at_call 35
              refine (add_any g g wk.heap.size z (x * y) _ (HGZ.out.keep0 F9.out).blk (HGZ.out.keep0 F9.out) HM9.out (by have := HLL.out; omega) (by have := HLL.out; omega)).mono ?_
              rintro e w10 ⟨rfl, hb, hf⟩
              have F10 : Hid (Fr [g] wk w10) := Lib.hid (F9.out.then_ hf)
              have HROW : Hid (BigRow w10 os (prodK ps qs i zs (k + 1))) := Lib.hid (by rw [HNX.out]; exact HSETR.out w10 _ F10.out hb)
              have HF10 : Hid (Fr os w2 w10) := Lib.hid (HFK.out.trans F10.out (by intro x hx _; simp only [List.mem_singleton] at hx; rw [hx]; exact HGIN.out))
              clear hb hf
              refine hK.out _ _ (fun h => absurd h (by decide)) ?_
              clear hK K
              refine lexP_done ?_
              go_wp2_with fail
              go_roundw
              case rel => exact ⟨k + 1, by omega, by go_num, HROW, HF10⟩
              case measure => simp [intOf]; omega
    · have hk2 : k < n := by omega
      have hfz := HOW.out.free (by omega)
      obtain ⟨u, hu⟩ := HOW.out.cell hk2
      obtain ⟨cs, hcs, hgol, _⟩ := HOW.out.blk (by omega)
      have HCS := Lib.hid hcs
      have hlen := HOS.out.1
      have HLEN := Lib.hid hlen
      clear hkn hlen hcs
      go_wp2_with fail
      have hss : (wr.setCell ⟨go, k, none⟩ (.pointer (some ⟨wr.heap.size, 0, none⟩))).heap.size = wr.heap.size := by simp [World.setCell]
      have HFS : Hid (Fr [go] wr (wr.setCell ⟨go, k, none⟩ (.pointer (some ⟨wr.heap.size, 0, none⟩)))) := Lib.hid ((Fr.refl [go] _).setCell (by simp) _)
      have F2 : Hid (Fr [go] wr ((wr.setCell ⟨go, k, none⟩ (.pointer (some ⟨wr.heap.size, 0, none⟩))).alloc (.cells #[.bool false, .slice none 0 0] 38))) := Lib.hid (HFS.out.alloc _)
      have HNU : Hid (NotU wr [go]) := Lib.hid (by
        intro x hx _ cs' fr e
        simp only [List.mem_singleton] at hx
        subst hx
        rw [HCS.out] at e
        simp at e)
      have HOW2 : Hid (OwO ((wr.setCell ⟨go, k, none⟩ (.pointer (some ⟨wr.heap.size, 0, none⟩))).alloc (.cells #[.bool false, .slice none 0 0] 38)) go go n (os ++ [wr.heap.size])) := Lib.hid (by
        have h := HOW.out.store (by rw [HLEN.out]; exact hk2) wr.heap.size
        rw [HLEN.out] at h
        exact h.keep ((Fr.refl [] _).alloc (.cells #[.bool false, .slice none 0 0] 38)) (by simp))
      have HBO2 : Hid (BigRow ((wr.setCell ⟨go, k, none⟩ (.pointer (some ⟨wr.heap.size, 0, none⟩))).alloc (.cells #[.bool false, .slice none 0 0] 38)) (os ++ [wr.heap.size]) (List.replicate (k + 1) 0)) := Lib.hid (by
        rw [List.replicate_succ']
        have hb0 := HBO.out.keepT HFS.out HNU.out (fun x hx hm => by
          simp only [List.mem_singleton] at hm
          subst hm
          obtain ⟨_, _, _, _, h3⟩ := HBO.out.ints hx
          rw [HCS.out] at h3
          simp at h3)
        have hn := BigAt_new (wr.setCell ⟨go, k, none⟩ (.pointer (some ⟨wr.heap.size, 0, none⟩)))
        rw [hss] at hn
        exact (hb0.keep0 ((Fr.refl [] _).alloc (.cells #[.bool false, .slice none 0 0] 38))).snoc hn)
      have HOS2 : Hid ((os ++ [wr.heap.size]).length = k + 1 ∧ (os ++ [wr.heap.size]).Nodup ∧ ∀ g ∈ os ++ [wr.heap.size], w1.heap.size ≤ g) := Lib.hid (by
        refine ⟨by simp [HLEN.out], ?_, ?_⟩
        · rw [List.nodup_append]
          refine ⟨HOS.out.2.1, by simp, ?_⟩
          intro x hx y hy
          simp at hy; subst hy
          have := HBO.out.lt hx
          omega
        · intro x hx
          rcases List.mem_append.1 hx with h | h
          · exact HOS.out.2.2 x h
          · simp at h; have := HF.out.size; omega)
      go_roundw
      case rel => exact ⟨k + 1, os ++ [wr.heap.size], by omega, by go_num, HOS2, HOW2, HBO2, Lib.hid (HF.out.trans F2.out (by simp))⟩
      case measure => simp [intOf]; omega
end Go.Proofs.YtedoeadhbcjjgaaDoor
