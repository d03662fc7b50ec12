/- Joined by program (merge.py) out of 1 texts, a part of the proof: contracts of the functions that the statement reaches, and plain mathematics. No statement of the seat stands here. -/
import Derived.Test.YtedoeadhbcjjgaaDoorG20
import Derived.Test.YtedoeadhbcjjgaaDoorG02
/- recur.modulo. -/
namespace Go.Proofs.YtedoeadhbcjjgaaDoor
open Go.RowKit

theorem getD_setI (l : List Int) (i j : Nat) (x : Int) : (l.set i x).getD j 0 = if i = j ∧ i < l.length then x else l.getD j 0 := getD_set l i j x
/-- One block of the row has been written. -/
theorem BigRow.set {w w' : World} {gs : List Nat} {zs : List Int} (h : BigRow w gs zs) (hnd : gs.Nodup) {k g : Nat} {z : Int} (hk : k < gs.length) (hg : g = gs.getD k 0) (f : Fr [g] w w') (hz : BigAt w' g z) : BigRow w' gs (zs.set k z) := by
  refine ⟨by simp [h.1], fun i hi => ?_⟩
  have hgk : gs.getD k 0 = gs[k] := by simp [List.getD, hk]
  have hgi : gs.getD i 0 = gs[i] := by simp [List.getD, hi]
  by_cases hik : k = i
  · subst hik
    rw [getD_set, if_pos ⟨rfl, by rw [← h.1]; exact hk⟩, ← hg]; exact hz
  · rw [getD_set, if_neg (fun h => hik h.1)]
    have hint : IntBlk w g := by rw [hg]; exact (h.2 k hk).blk
    refine (h.2 i hi).keep f (AreInts.one hint) ?_
    simp only [List.mem_singleton]
    rw [hg, hgi, hgk]
    intro e
    exact hik ((List.getElem_inj hnd).1 e.symm)
theorem BigRow.areInts {w : World} {gs : List Nat} {zs : List Int} (h : BigRow w gs zs) : AreInts w gs := fun k hk _ => h.ints hk
theorem BigRow.keepD {w w' : World} {gs S : List Nat} {zs : List Int} (h : BigRow w gs zs) (f : Fr S w w') (hS : AreInts w S) (hd : ∀ g ∈ gs, g ∉ S) : BigRow w' gs zs := h.keepT f hS.notU hd
theorem BigRow.take {w : World} {gs : List Nat} {zs : List Int} (h : BigRow w gs zs) (k : Nat) : BigRow w (gs.take k) (zs.take k) := by
  refine ⟨by simp [h.1], fun i hi => ?_⟩
  rw [List.length_take] at hi
  have e1 : (gs.take k).getD i 0 = gs.getD i 0 := by simp only [List.getD, List.getElem?_take, if_pos (show i < k by omega)]
  have e2 : (zs.take k).getD i 0 = zs.getD i 0 := by simp only [List.getD, List.getElem?_take, if_pos (show i < k by omega)]
  rw [e1, e2]; exact h.2 i (by omega)
theorem OwP.take {w : World} {base : Nat} {A : Option Addr} {c n : Nat} {gs : List Nat} (h : OwP w base (.slice A gs.length c) gs) (hn : n ≤ gs.length) : OwP w base (.slice A n c) (gs.take n) := by
  unfold OwP at h ⊢
  have hl : (gs.take n).length = n := by rw [List.length_take]; omega
  rw [hl]
  refine ⟨by simp [ptrs_length, hl], ?_⟩
  rcases h.2 with ⟨e, h0⟩ | ⟨g, cap, cur, e, hb, hh, hnc, hcm, hcs, htake⟩
  · simp only [Value.slice.injEq] at e
    obtain ⟨rfl, h1, rfl⟩ := e
    left
    have : n = 0 := by omega
    subst this; exact ⟨rfl, rfl⟩
  · simp only [Value.slice.injEq, true_and] at e
    obtain ⟨rfl, rfl⟩ := e
    right
    refine ⟨g, c, cur, rfl, hb, hh, by omega, hcm, hcs, ?_⟩
    have e2 : ptrs (gs.take n) = (ptrs gs).take n := by simp [ptrs, List.map_take]
    rw [e2, ← htake, List.take_take]
    congr 1; omega
theorem OwP.cells {w : World} {base : Nat} {b n c : Nat} {gs : List Nat} (h : OwP w base (.slice (some ⟨b, 0, none⟩) n c) gs) {j : Nat} (hj : j < gs.length) : w.cell? ⟨b, j, none⟩ = some (.pointer (some ⟨gs.getD j 0, 0, none⟩)) := by
  obtain ⟨A, c', e, _, hx⟩ := h.open_
  obtain ⟨b', e2, h3⟩ := hx (by omega)
  simp only [Value.slice.injEq] at e
  obtain ⟨rfl, _, _⟩ := e
  simp only [Option.some.injEq, Addr.mk.injEq, and_true] at e2
  subst e2
  exact h3 j hj
theorem OwP.len {w : World} {base : Nat} {A : Option Addr} {n c : Nat} {gs : List Nat} (h : OwP w base (.slice A n c) gs) : gs.length = n := by
  obtain ⟨_, _, e, _⟩ := h.open_; simp only [Value.slice.injEq] at e; exact e.2.1.symm

def ModuloPost (base : Nat) (gs : List Nat) (zs : List Int) (k : Nat) (w : World) (e : Ending) (w' : World) : Prop := ∃ v', e = .returned v' ∧ OwP w' base v' (gs.take k) ∧ BigRow w' (gs.take k) zs ∧ Fr gs w w'

set_option maxRecDepth 1000000 in
set_option maxHeartbeats 8000000 in
theorem modulo_any (pv rv : Value) (gs hs : List Nat) (gm : Nat) (ps rs : List Int) (M : Int) (bp br : Nat) (w : World) (hp : OwP w bp pv gs) (hr : OwP w br rv hs) (hbp : BigRow w gs ps) (hbr : BigRow w hs rs) (hm : BigAt w gm M) (hM : 0 < M)
    (hnd : gs.Nodup) (hdis : ∀ g ∈ gs, g ∉ hs) (hgm : gm ∉ gs) (hl1 : gs.length ≤ 1000) (hl2 : hs.length ≤ 1000) (hB1 : AllB 1000 ps) (hB2 : AllB 1000 rs) (hB3 : (limbs M.natAbs).length ≤ 1000) :
    Calls Tryd.prog 39 #[pv, rv, .pointer (some ⟨gm, 0, none⟩)] w (ModuloPost bp gs (moduloZ ps rs M) (min rs.length ps.length) w) := by
  have HP := Lib.hid hp
  have HR := Lib.hid hr
  have HBP := Lib.hid hbp
  have HBR := Lib.hid hbr
  have HM := Lib.hid hm
  have HND := Lib.hid (And.intro hnd (And.intro hdis hgm))
  have HB := Lib.hid (And.intro hB1 (And.intro hB2 hB3))
  obtain ⟨N, hN⟩ : ∃ N, N = gs.length := ⟨_, rfl⟩
  obtain ⟨L, hL⟩ : ∃ L, L = hs.length := ⟨_, rfl⟩
  obtain ⟨A, ca, rfl, hca, hxa⟩ := hp.open_
  obtain ⟨B, cb, rfl, hcb, hxb⟩ := hr.open_
  rw [← hN] at hca hxa hl1 HP ⊢
  rw [← hL] at hcb hxb hl2 HR ⊢
  have HNN : Hid (gs.length = N ∧ ps.length = N) := Lib.hid ⟨hN.symm, by rw [hN]; exact hbp.1.symm⟩
  have HLL : Hid (hs.length = L ∧ rs.length = L) := Lib.hid ⟨hL.symm, by rw [hL]; exact hbr.1.symm⟩
  have HXA := Lib.hid hxa
  have HXB := Lib.hid hxb
  have HMP := Lib.hid hM
  clear hp hr hbp hbr hm hnd hdis hgm hB1 hB2 hB3 hN hL hxa hxb hM
  go_enter Tryd.func39, Tryd.ntmps39
  go_wp2_with fail
  go_loopw [8] (fun tv wr => ∃ j t, j ≤ N - L ∧ (N : Int) - 1 - j = t ∧ tv = .int .i64 t ∧ Hid (BigRow wr gs (redT rs M ps j)) ∧ Hid (Fr gs w wr)) (fun tv _ => ((intOf tv) + 1).toNat)
  case atStart => exact ⟨0, _, by omega, rfl, by simp, HBP, Lib.hid (Fr.refl _ _)⟩
  case round =>
    obtain ⟨j, t, hj, ht, rfl, HG, HF⟩ := hrel
    by_cases hjN : j < N - L
    · obtain ⟨tp, htp⟩ : ∃ tp : Nat, t = (tp : Int) := ⟨t.toNat, by omega⟩
      subst htp
      have htL : L ≤ tp := by omega
      have htN : tp < N := by omega
      have HTP : Hid (N - 1 - j = tp) := Lib.hid (by omega)
      obtain ⟨ba, rfl, hxa⟩ := HXA.out (by omega)
      clear hxa
      obtain ⟨wm, rfl⟩ : ∃ wm : World, wm = wr := ⟨_, rfl⟩
      obtain ⟨qs, hqs⟩ : ∃ qs, qs = redT rs M ps j := ⟨_, rfl⟩
      rw [← hqs] at HG
      have HQ := Lib.hid hqs
      have HQL : Hid (qs.length = N) := Lib.hid (by rw [hqs, redT_length, HNN.out.2])
      have HQB : Hid (AllB 1000 qs) := Lib.hid (by rw [hqs]; exact redT_B HMP.out HB.out.2.2 HB.out.1 j)
      clear hqs
      go_wp2_with fail
      go_loopw [24] (fun iv wi => ∃ i : Nat, i ≤ L ∧ iv = .int .i64 (i : Int) ∧ Hid (BigRow wi gs (redI rs M tp qs i)) ∧ Hid (Fr gs w wi)) (fun iv _ => L - (intOf iv).toNat)
      case atStart => exact ⟨0, by omega, rfl, HG, HF⟩
      case round =>
        obtain ⟨i, hi, rfl, HI, HFI⟩ := hrel
        obtain ⟨wi, rfl⟩ : ∃ wi : World, wi = wr := ⟨_, rfl⟩
        by_cases hiL : i = L
        · have hiL' := hiL.symm
          subst hiL'
          have HNXT : Hid (BigRow wi gs (redT rs M ps (j + 1))) := Lib.hid (by
            rw [redT, HNN.out.2, HTP.out, HLL.out.2, ← HQ.out]; exact HI.out)
          clear hiL hi
          go_wp2_with fail
          go_roundw
          case rel => exact ⟨j + 1, _, by omega, rfl, by first | go_num | (congr 1; omega) | exact congrArg (Value.int .i64) (by omega), HNXT, HFI⟩
          case measure => simp [intOf]; try omega
        · have hi2 : i < L := by omega
          obtain ⟨bb, rfl, hxb⟩ := HXB.out (by omega)
          clear hxb
          obtain ⟨ia, hia⟩ : ∃ ia, ia = tp - 1 - i := ⟨_, rfl⟩
          have hiab : ia < tp := by omega
          have r1 : (tp : Int) - 1 - i = (ia : Int) := by omega
          have hcw := HR.out.cells (j := i) (by rw [HLL.out.1]; exact hi2)
          have hc1w := HP.out.cells (j := ia) (by rw [HNN.out.1]; omega)
          have hc2w := HP.out.cells (j := tp) (by rw [HNN.out.1]; omega)
          have hAI := HBP.out.areInts
          have hnb : ∀ (v : Value) (gs' : List Nat) (b' k : Nat), OwP w b' v gs' → v.ownBlock = some k → k ∉ gs := by
            intro v gs' b' k h1 h2 h3
            exact h1.ne_int (HBP.out.ints h3) h2
          have hnba : ba ∉ gs := hnb _ _ _ _ HP.out rfl
          have hnbb : bb ∉ gs := hnb _ _ _ _ HR.out rfl
          have hc1i := (HFI.out.cell (p := ⟨ba, ia, none⟩) (World.block_lt_of_cell? w _ hc1w) hnba).trans hc1w
          have hc2i := (HFI.out.cell (p := ⟨ba, tp, none⟩) (World.block_lt_of_cell? w _ hc2w) hnba).trans hc2w
          have hci := (HFI.out.cell (p := ⟨bb, i, none⟩) (World.block_lt_of_cell? w _ hcw) hnbb).trans hcw
          have hbai := World.block_lt_of_cell? wi _ hc1i
          have hbr := HBR.out.2 i (by rw [HLL.out.1]; exact hi2)
          have hbri : BigAt wi (hs.getD i 0) (rs.getD i 0) := hbr.keep HFI.out hAI (fun hm => HND.out.2.1 _ hm (by rw [show hs.getD i 0 = hs[i]'(by rw [HLL.out.1]; exact hi2) by simp [List.getD, show i < hs.length by rw [HLL.out.1]; exact hi2]]; exact List.getElem_mem _))
          have hmi : BigAt wi gm M := HM.out.keep HFI.out hAI HND.out.2.2
          have hg1 := HI.out.2 ia (by rw [HNN.out.1]; omega)
          have hg2 := HI.out.2 tp (by rw [HNN.out.1]; omega)
          have hRB := redI_B (rule := rs) HMP.out HB.out.2.2 HQB.out tp i
          have hRL : (redI rs M tp qs i).length = N := by rw [redI_length, HQL.out]
          have hnx : redI rs M tp qs (i + 1) = (redI rs M tp qs i).set (tp - 1 - i) (((redI rs M tp qs i).getD (tp - 1 - i) 0 + (redI rs M tp qs i).getD tp 0 * rs.getD i 0) % M) := rfl
          rw [← hia] at hnx
          have hl1' := hRB ia
          have hl2' := hRB tp
          have hl3' := HB.out.2.1 i
          have hmul := limbs_mul_len ((redI rs M tp qs i).getD tp 0).natAbs (rs.getD i 0).natAbs
          have hadd := limbs_add_len ((redI rs M tp qs i).getD ia 0).natAbs (((redI rs M tp qs i).getD tp 0).natAbs * (rs.getD i 0).natAbs)
          have hadd2 := limbs_length_mono (Int.natAbs_add_le ((redI rs M tp qs i).getD ia 0) ((redI rs M tp qs i).getD tp 0 * rs.getD i 0))
          rw [Int.natAbs_mul] at hadd2
          have hgin : gs.getD ia 0 ∈ gs := by rw [show gs.getD ia 0 = gs[ia]'(by rw [HNN.out.1]; omega) by simp [List.getD, show ia < gs.length by rw [HNN.out.1]; omega]]; exact List.getElem_mem _
          have hgmia : gm ≠ gs.getD ia 0 := fun e => HND.out.2.2 (by rw [e]; exact hgin)
          have HSETROW : Hid (∀ (w' : World) (zs : List Int) (z : Int), BigRow wi gs zs → zs = redI rs M tp qs i → Fr [gs.getD ia 0] wi w' → BigAt w' (gs.getD ia 0) z → BigRow w' gs (zs.set ia z)) := Lib.hid (fun w' zs z h _ f hz => h.set HND.out.1 (by rw [HNN.out.1]; omega) rfl f hz)
          obtain ⟨xs, hxs⟩ : ∃ xs, xs = redI rs M tp qs i := ⟨_, rfl⟩
          rw [← hxs] at hg1 hg2 hRL hnx hl1' hl2' hmul hadd hadd2 HI HSETROW
          obtain ⟨g1, hg1d⟩ : ∃ g, g = gs.getD ia 0 := ⟨_, rfl⟩
          obtain ⟨g2, hg2d⟩ : ∃ g, g = gs.getD tp 0 := ⟨_, rfl⟩
          obtain ⟨gr, hgrd⟩ : ∃ g, g = hs.getD i 0 := ⟨_, rfl⟩
          obtain ⟨x, hx⟩ : ∃ x, x = xs.getD ia 0 := ⟨_, rfl⟩
          obtain ⟨y, hy⟩ : ∃ y, y = xs.getD tp 0 := ⟨_, rfl⟩
          obtain ⟨r, hr⟩ : ∃ r, r = rs.getD i 0 := ⟨_, rfl⟩
          rw [← hg1d] at hc1i hg1 hgin hgmia HSETROW
          rw [← hg2d] at hc2i hg2
          rw [← hgrd] at hci hbri
          rw [← hx] at hg1 hnx hl1' hadd hadd2
          rw [← hy] at hg2 hnx hl2' hmul hadd hadd2
          rw [← hr] at hbri hnx hl3' hmul hadd hadd2
          have HX := Lib.hid hg1
          have HY := Lib.hid hg2
          have HRR := Lib.hid hbri
          have HMI := Lib.hid hmi
          have HNX := Lib.hid hnx
          have HLEN : Hid ((limbs y.natAbs).length ≤ 1000 ∧ (limbs r.natAbs).length ≤ 1000 ∧ (limbs x.natAbs).length ≤ 1000 ∧ (limbs (y * r).natAbs).length ≤ 2000 ∧ (limbs (x + y * r).natAbs).length ≤ 4000) := Lib.hid ⟨hl2', hl3', hl1', by rw [Int.natAbs_mul]; omega, by omega⟩
          have HGIN := Lib.hid (And.intro hgin hgmia)
          have htp2 : (tp : Int) < N := by omega
          have hia2 : (ia : Int) < N := by omega
          have hia3 : IntKind.i64.wrap (ia : Int) = (ia : Int) := IntWalk.i64_in _ (by omega)
          have HBA : Hid (∀ (w' : World) (g : Nat) (z : Int), Fr [g] wi w' → BigAt wi g z → (w'.cell? ⟨ba, ia, none⟩ = some (.pointer (some ⟨g1, 0, none⟩)) ∧ w'.cell? ⟨ba, tp, none⟩ = some (.pointer (some ⟨g2, 0, none⟩)))) := Lib.hid (by
            intro w' g z f hz
            have hne : ba ∉ [g] := by
              simp only [List.mem_singleton]
              rintro rfl
              exact hz.blk.cell_not hc1i (.inr ⟨_, rfl⟩)
            exact ⟨(f.cell (p := ⟨ba, ia, none⟩) hbai hne).trans hc1i, (f.cell (p := ⟨ba, tp, none⟩) hbai hne).trans hc2i⟩)
          clear hcw hc1w hc2w hAI hnb hnba hnbb hbr hbri hmi hg1 hg2 hRB hRL hnx hl1' hl2' hl3' hmul hadd hadd2 hgin hgmia hg1d hg2d hgrd hx hy hr hia hiL
          go_wp2_with fail
          refine wp_region_lexP [(0, false), (1, false), (2, false), (3, false), (4, false), (5, false), (6, false), (7, false), (9, false), (10, false), (11, false), (12, false), (13, false), (8, true), (14, true), (15, true)] (fun w' => w'.cell? ⟨ba, ia, none⟩ = some (.pointer (some ⟨g1, 0, none⟩)) ∧ w'.cell? ⟨ba, tp, none⟩ = some (.pointer (some ⟨g2, 0, none⟩))) 15 (by kernel_rfl) (by kernel_rfl) (fun _ _ d _ _ h => by cases d <;> exact h) ⟨hc1i, hc2i⟩ ?_
          iterate 13 (refine lexP_yield (by rfl) (by rfl) (by intro w hSw; (try dsimp only at hSw); go_simp; (try rfl)) ?_; simp only [Act.put, List.setIfInBounds_toArray, List.set_cons_zero, List.set_cons_succ])
          refine lexP_step (by rfl) (by rfl) (fun K hK => ?_)
          go_simp
          obtain ⟨w8, hw8⟩ : ∃ w8, w8 = (wi.alloc (.cells #[.bool false, .slice none 0 0] 38)).drew := ⟨_, rfl⟩
          have F8 : Hid (Fr [] wi w8) := Lib.hid (by rw [hw8]; exact ((Fr.refl [] wi).alloc _).drew)
          have HN8 : Hid (BigAt w8 wi.heap.size 0) := Lib.hid (by rw [hw8]; exact (BigAt_new wi).keep0 (Fr.refl [] _).drew)
          rw [← hw8]
          refine hK.out _ _ (fun _ => ⟨(F8.out.cell (p := ⟨ba, ia, none⟩) hbai (by simp)).trans hc1i, (F8.out.cell (p := ⟨ba, tp, none⟩) hbai (by simp)).trans hc2i⟩) ?_
          clear hK K hw8
          try simp only [Act.put, List.setIfInBounds_toArray, List.set_cons_zero, List.set_cons_succ]
          refine lexP_step (by rfl) (by rfl) (fun K hK => ?_)
          go_simp
          go_at_call 29
          refine (mul_any wi.heap.size g2 gr y r _ HN8.out.blk (HY.out.keep0 F8.out) (HRR.out.keep0 F8.out) (by have := HLEN.out; omega) (by have := HLEN.out; omega)).mono ?_
          rintro e w9 ⟨rfl, hb, hf⟩
          have HM9 := Lib.hid hb
          have F9 : Hid (Fr [] wi w9) := Lib.hid (F8.out.own1 hf (Nat.le_refl _))
          clear hb hf
          refine hK.out _ _ (fun _ => ⟨(F9.out.cell (p := ⟨ba, ia, none⟩) hbai (by simp)).trans hc1i, (F9.out.cell (p := ⟨ba, tp, none⟩) hbai (by simp)).trans hc2i⟩) ?_
          clear hK K
          try simp only [Act.put, List.setIfInBounds_toArray, List.set_cons_zero, List.set_cons_succ]
          refine lexP_step (by rfl) (by rfl) (fun K hK => ?_)
          go_simp
          go_at_call 35
          refine (add_any g1 g1 wi.heap.size x (y * r) _ (HX.out.keep0 F9.out).blk (HX.out.keep0 F9.out) HM9.out (by have := HLEN.out; omega) (by have := HLEN.out; omega)).mono ?_
          rintro e w10 ⟨rfl, hb, hf⟩
          have HX10 := Lib.hid hb
          have F10 : Hid (Fr [g1] wi w10) := Lib.hid (F9.out.then_ hf)
          clear hb hf
          refine hK.out _ _ (fun h => absurd h (by decide)) ?_
          clear hK K
          refine lexP_done ?_
          obtain ⟨d1, d2⟩ := HBA.out w10 g1 x F10.out HX.out
          have HM10 : Hid (BigAt w10 gm M) := Lib.hid (HMI.out.keep1 F10.out HX.out HGIN.out.2)
          have hba10 := World.block_lt_of_cell? w10 _ d1
          have F10d : Hid (Fr [] w10 w10.drew) := Lib.hid (Fr.refl [] w10).drew
          go_wp2_with fail
          refine wp_region_lexP [(0, false), (1, false), (2, false), (3, false), (4, false), (5, false), (6, false), (7, false), (8, false), (9, true)] (fun w' => w'.cell? ⟨ba, ia, none⟩ = some (.pointer (some ⟨g1, 0, none⟩))) 9 (by kernel_rfl) (by kernel_rfl) (fun _ _ d _ _ h => by cases d <;> exact h) d1 ?_
          iterate 9 (refine lexP_yield (by rfl) (by rfl) (by intro w hSw; (try dsimp only at hSw); go_simp; (try rfl)) ?_; simp only [Act.put, List.setIfInBounds_toArray, List.set_cons_zero, List.set_cons_succ])
          refine lexP_step (by rfl) (by rfl) (fun K hK => ?_)
          go_simp
          go_at_call 24
          refine (mod_any g1 g1 gm (x + y * r) M _ (HX10.out.keep0 F10d.out).blk (HX10.out.keep0 F10d.out) (HM10.out.keep0 F10d.out) (by have := HLEN.out; omega) (by have := HB.out.2.2; omega) HMP.out).mono ?_
          rintro e w11 ⟨rfl, hb, hf⟩
          have F11 : Hid (Fr [g1] wi w11) := Lib.hid ((F10.out.trans0 F10d.out).trans hf (by simp))
          have HROW : Hid (BigRow w11 gs (redI rs M tp qs (i + 1))) := Lib.hid (by rw [HNX.out]; exact HSETROW.out w11 xs _ HI.out rfl F11.out hb)
          clear hb hf
          refine hK.out _ _ (fun h => absurd h (by decide)) ?_
          clear hK K
          refine lexP_done ?_
          go_wp2_with fail
          go_roundw
          case rel => exact ⟨i + 1, by omega, by go_num, HROW, Lib.hid (HFI.out.trans F11.out (by intro z hz _; simp only [List.mem_singleton] at hz; rw [hz]; exact HGIN.out.1))⟩
          case measure => simp [intOf]; omega
    · have hjE : j = N - L := by omega
      have htl : t < (L : Int) := by omega
      have hmn : min (L : Int) (N : Int) = ((min L N : Nat) : Int) := by omega
      obtain ⟨k, hk⟩ : ∃ k, k = min L N := ⟨_, rfl⟩
      rw [← hk] at hmn
      have HK : Hid (min rs.length ps.length = k) := Lib.hid (by rw [HLL.out.2, HNN.out.2, hk])
      have hkN : k ≤ N := by omega
      have HRES : Hid (BigRow wr (gs.take k) (moduloZ ps rs M)) := Lib.hid (by
        unfold moduloZ
        rw [HLL.out.2, HNN.out.2, ← hk, ← hjE]
        exact HG.out.take k)
      have HOW : Hid (OwP wr bp (.slice A N ca) gs) := Lib.hid (HP.out.keepI HF.out HBP.out.areInts)
      have HOW2 : Hid (OwP wr bp (.slice A k ca) (gs.take k)) := Lib.hid (by
        have h := HOW.out
        rw [← HNN.out.1] at h
        exact h.take (by rw [HNN.out.1]; exact hkN))
      clear hjE hk HG
      go_wp2_with fail
      go_ret
      exact ⟨_, rfl, by rw [HK.out]; exact HOW2.out, by rw [HK.out]; exact HRES.out, HF.out⟩
end Go.Proofs.YtedoeadhbcjjgaaDoor
