/- Joined by program (merge.py) out of 3 texts, a part of the proof: contracts of the functions that the statement reaches, and plain mathematics. No statement of the seat stands here. -/
import Derived.Test.YtedoeadhbcjjgaaDoorG25
import Derived.Test.YtedoeadhbcjjgaaDoorRows
import Derived.ProofKit
import Derived.LaidMore
import Derived.OpenShut
import Derived.Carry
import Derived.Stop.Joined
import Derived.SevenTiedAt
import Derived.WalkLawsBesides
/- rosettelaw25.RecurAny: the walk. -/
namespace Go.Proofs.YtedoeadhbcjjgaaDoor
open Go.RowKit

theorem nine_mem (k : Int) : primeAt k ∈ nine := primeAt_mem k
/-- The list, each number less by a multiple of p. -/
def likeOf (l : List Int) (p : Int) : List Int := (List.range l.length).map fun i => l.getD i 0 % p - p * ((i % 5 : Nat) : Int)
theorem likeOf_length (l : List Int) (p : Int) : (likeOf l p).length = l.length := by simp [likeOf]
theorem rowOf_like {l : List Int} {p : Int} : rowOf (likeOf l p) p = rowOf l p := by
  unfold rowOf
  rw [likeOf_length]
  refine List.ext_getElem (by simp) ?_
  intro i h1 h2
  simp only [List.getElem_map, List.getElem_range]
  have hi : i < l.length := by simpa using h1
  have e : (likeOf l p).getD i 0 = l.getD i 0 % p - p * ((i % 5 : Nat) : Int) := by simp [likeOf, List.getD, hi]
  rw [e, Int.sub_eq_add_neg, ← Int.mul_neg, Int.add_mul_emod_self_left, Int.emod_emod_of_dvd _ (Int.dvd_refl p)]
theorem rowOf_take (l : List Int) (p : Int) {i : Nat} (h : i < l.length) : (rowOf l p).take (i + 1) = (rowOf l p).take i ++ [l.getD i 0 % p] := by
  rw [List.take_succ_eq_append_getElem (by rw [rowOf_length]; exact h)]
  simp [rowOf]
theorem likeOf_take (l : List Int) (p : Int) {i : Nat} (h : i < l.length) : (likeOf l p).take (i + 1) = (likeOf l p).take i ++ [l.getD i 0 % p - p * ((i % 5 : Nat) : Int)] := by
  rw [List.take_succ_eq_append_getElem (by rw [likeOf_length]; exact h)]
  simp [likeOf]
theorem likeOf_full (l : List Int) (p : Int) {n : Nat} (h : n = l.length) : (likeOf l p).take n = likeOf l p := List.take_of_length_le (by rw [likeOf_length, h]; exact Nat.le_refl _)
theorem rowOf_full (l : List Int) (p : Int) {n : Nat} (h : n = l.length) : (rowOf l p).take n = rowOf l p := List.take_of_length_le (by rw [rowOf_length, h]; exact Nat.le_refl _)

set_option maxRecDepth 1000000 in
set_option maxHeartbeats 16000000 in
theorem recurAny_walk (va : Value) (l : List Int) (k : Int) (w : World) (ha : SlI w va l) (hlm : l.length ≤ 9223372036854775807) (hk : Ri k) (hT : HasTab w) :
    Calls Tryd.prog 4 #[va, .int .i64 k] w (Yes true w) := by
  have HA := Lib.hid ha
  have HT := Lib.hid hT
  have HK := Lib.hid hk
  obtain ⟨A, c, rfl, hc, hx⟩ := ha.open_
  obtain ⟨n, hn⟩ : ∃ n, n = l.length := ⟨_, rfl⟩
  rw [← hn] at HA hc hx hlm ⊢
  have HN := Lib.hid hn
  have HX := Lib.hid hx
  clear ha hT hk hx hn
  by_cases h40 : 40 < n
  · have e0 : decide ((40 : Int) < (n : Int)) = true := by simp; omega
    clear h40
    go_enter Tryd.func4, Tryd.ntmps4
    go_wp2_with (go_at_call 10; refine (awake_any _ HT.out).mono ?_; rintro e w' ⟨rfl, hf⟩; have HF := Lib.hid hf; clear hf)
    go_ret
    exact ⟨rfl, HF.out⟩
  have e0 : decide ((40 : Int) < (n : Int)) = false := by simp; omega
  have hn40 : n ≤ 40 := by omega
  obtain ⟨p, hp⟩ : ∃ p, p = primeAt k := ⟨_, rfl⟩
  have HP : Hid (p ∈ nine) := Lib.hid (by rw [hp]; exact nine_mem k)
  obtain ⟨hp1, hpb⟩ := nine_two HP.out
  have HPK := Lib.hid hp
  clear hp h40
  go_enter Tryd.func4, Tryd.ntmps4
  go_wp2_with fail
  refine (primes_any k w HK.out).mono ?_
  rw [← HPK.out]
  rintro e w0 ⟨rfl, hf⟩
  have F0 := Lib.hid hf
  have HA0 := Lib.hid (HA.out.keep0 hf)
  clear hf
  go_wp2_with fail
  refine (shortest_any _ l p w0 HA0.out (by rw [← HN.out]; omega) HP.out (HT.out.keep0 F0.out)).mono ?_
  rintro e w1 ⟨vb, hf, hcase⟩
  have F1 : Hid (Fr [] w w1) := Lib.hid (F0.out.trans0 hf)
  have hs01 := hf.size
  obtain ⟨st, hst⟩ : ∃ st, st = bmRun p (rowOf l p) l.length := ⟨_, rfl⟩
  rw [← hst, ← HN.out] at hcase
  have HST := Lib.hid hst
  obtain ⟨ec, hec⟩ : ∃ ec, e = .returned (.tuple #[vb, .int .i64 ec]) ∧ ((n < 2 * st.size ∧ vb = .slice none 0 0 ∧ ec = 340) ∨ (2 * st.size ≤ n ∧ OwI w1 w0.heap.size vb (bmOut p st) ∧ ec = 0)) := by
    rcases hcase with ⟨h1, h2, h3⟩ | ⟨h1, h2, h3⟩
    · exact ⟨340, h3, .inl ⟨h1, h2, rfl⟩⟩
    · exact ⟨0, h3, .inr ⟨h1, h2, rfl⟩⟩
  obtain ⟨rfl, hcase2⟩ := hec
  have HCASE := Lib.hid hcase2
  clear hf hcase hcase2 hst HA0
  go_wp2_with fail
  go_loopw [8, 9, 10] (fun lk lo iv wr => ∃ i : Nat, i ≤ n ∧ iv = .int .i64 (i : Int) ∧ Hid (OwI wr w1.heap.size lo ((rowOf l p).take i)) ∧ Hid (OwI wr w1.heap.size lk ((likeOf l p).take i)) ∧ Hid (∀ x, lo.ownBlock = some x → lk.ownBlock ≠ some x) ∧ Hid (Fr [] w1 wr)) (fun _ _ iv _ => n - (intOf iv).toNat)
  case atStart => exact ⟨0, by omega, rfl, Lib.hid (OwI_nil _ _), Lib.hid (OwI_nil _ _), Lib.hid (by simp [Value.ownBlock]), Lib.hid (Fr.refl _ _)⟩
  case round =>
    obtain ⟨i, hi, rfl, HLO, HLK, HSEP, HF⟩ := hrel
    obtain ⟨wm, rfl⟩ : ∃ wm : World, wm = wr := ⟨_, rfl⟩
    have hszm := HF.out.size
    by_cases hin : i = n
    · have hin' := hin.symm
      subst hin'
      obtain ⟨w2, rfl⟩ : ∃ w2 : World, w2 = wm := ⟨_, rfl⟩
      have HLOF : Hid (OwI w2 w1.heap.size u9 (rowOf l p)) := Lib.hid (by have h := HLO.out; rw [rowOf_full l p HN.out] at h; exact h)
      have HLKF : Hid (OwI w2 w1.heap.size u8 (likeOf l p)) := Lib.hid (by have h := HLK.out; rw [likeOf_full l p HN.out] at h; exact h)
      have F2 : Hid (Fr [] w w2) := Lib.hid (F1.out.trans0 HF.out)
      clear HLO HLK HSEP hin hi
      go_wp2_with fail
      refine (shortest_any _ (likeOf l p) p w2 HLKF.out.sl (by rw [likeOf_length, ← HN.out]; omega) HP.out (HT.out.keep0 F2.out)).mono ?_
      rintro e w3 ⟨vc, hf, hcase⟩
      have F3 : Hid (Fr [] w w3) := Lib.hid (F2.out.trans0 hf)
      have F13 : Hid (Fr [] w1 w3) := Lib.hid (HF.out.trans0 hf)
      have HLO3 := Lib.hid (HLOF.out.keep0 hf)
      rw [rowOf_like, likeOf_length, ← HST.out, ← HN.out] at hcase
      obtain ⟨ed, hed⟩ : ∃ ed, e = .returned (.tuple #[vc, .int .i64 ed]) ∧ ((n < 2 * st.size ∧ vc = .slice none 0 0 ∧ ed = 340) ∨ (2 * st.size ≤ n ∧ OwI w3 w2.heap.size vc (bmOut p st) ∧ ed = 0)) := by
        rcases hcase with ⟨h1, h2, h3⟩ | ⟨h1, h2, h3⟩
        · exact ⟨340, h3, .inl ⟨h1, h2, rfl⟩⟩
        · exact ⟨0, h3, .inr ⟨h1, h2, rfl⟩⟩
      obtain ⟨rfl, hcd⟩ := hed
      clear hf hcase HLOF HLKF
      by_cases hbig : n < 2 * st.size
      · obtain ⟨rfl, rfl⟩ : vb = .slice none 0 0 ∧ ec = 340 := by rcases HCASE.out with ⟨_, h1, h2⟩ | ⟨h0, _⟩; exact ⟨h1, h2⟩; omega
        obtain ⟨rfl, rfl⟩ : vc = .slice none 0 0 ∧ ed = 340 := by rcases hcd with ⟨_, h1, h2⟩ | ⟨h0, _⟩; exact ⟨h1, h2⟩; omega
        clear hcd HCASE hbig
        go_wp2_with fail
        refine (sameLongs_any _ _ [] [] w3 (SlI_nil _ _ _) (SlI_nil _ _ _) (by simp) (by simp)).mono ?_
        rw [show decide (([] : List Int) = []) = true by decide]
        rintro e w4 ⟨rfl, q, rfl⟩
        go_wp2_with fail
        refine (awake_any _ (HT.out.keep0 (F3.out.drewN q))).mono ?_
        rintro e w5 ⟨rfl, hf⟩
        have F5 := Lib.hid ((F3.out.drewN q).trans0 hf)
        clear hf
        go_wp2
        go_ret
        exact ⟨rfl, F5.out⟩
      · have hsm : 2 * st.size ≤ n := by omega
        obtain ⟨hob, rfl⟩ : OwI w1 w0.heap.size vb (bmOut p st) ∧ ec = 0 := by rcases HCASE.out with ⟨h0, _⟩ | ⟨_, h1, h2⟩; omega; exact ⟨h1, h2⟩
        obtain ⟨hoc, rfl⟩ : OwI w3 w2.heap.size vc (bmOut p st) ∧ ed = 0 := by rcases hcd with ⟨h0, _⟩ | ⟨_, h1, h2⟩; omega; exact ⟨h1, h2⟩
        have HOB3 := Lib.hid (hob.keep0 F13.out).sl
        have HOC := Lib.hid hoc.sl
        obtain ⟨Ab, cb, rfl, hcb, _⟩ := hob.sl.open_
        obtain ⟨Ac, cc, rfl, hcc, _⟩ := hoc.sl.open_
        rw [bmOut_length] at hcb hcc HOB3 HOC ⊢
        have HOUT : Hid ((bmOut p st).length = st.size) := Lib.hid (bmOut_length p st)
        obtain ⟨L, hL⟩ : ∃ L, L = st.size := ⟨_, rfl⟩
        rw [← hL] at hsm hcb hcc HOB3 HOC HOUT ⊢
        have HLL := Lib.hid hL
        have e3 : decide (2 * (L : Int) ≤ (n : Int)) = true := by simp; omega
        clear hob hoc hcd HCASE hbig hL
        go_wp2_with fail
        refine (sameLongs_any _ _ (bmOut p st) (bmOut p st) w3 HOB3.out HOC.out (by rw [HOUT.out]; omega) (by rw [HOUT.out]; omega)).mono ?_
        rw [show decide (bmOut p st = bmOut p st) = true by simp]
        rintro e w4 ⟨rfl, q, rfl⟩
        have HOB4 := Lib.hid (HOB3.out.keep0 ((Fr.refl [] w3).drewN q))
        have HLO4 := Lib.hid (HLO3.out.keep0 ((Fr.refl [] w3).drewN q))
        have HMAKE : Hid (goesL ((rowOf l (p : Int)).take L) (bmOut p st) p n = rowOf l p) := Lib.hid (by
          have h := bm_makes_all hp1 (nine_inv HP.out) (rowOf_in (l := l) (p := (p : Int)) (by omega))
          rw [rowOf_length, ← HST.out, ← HLL.out, ← HN.out] at h
          exact h)
        have HRL : Hid ((rowOf l (p : Int)).length = n) := Lib.hid (by rw [rowOf_length, ← HN.out])
        obtain ⟨Al, cl, hvl, hcl, hxl⟩ := HLO4.out.sl.open_
        rw [HRL.out] at hvl hcl
        have HSL : Hid (SlI (w3.drewN q) (.slice Al L cl) ((rowOf l (p : Int)).take L)) := Lib.hid (by
          refine ⟨Al, cl, by rw [List.length_take, HRL.out, Nat.min_eq_left (by omega)], by rw [List.length_take, HRL.out]; omega, fun x hx => Ins.ri hpb (rowOf_in (l := l) (p := (p : Int)) (by omega)) x (List.mem_of_mem_take hx), fun hl => ?_⟩
          rw [i64s_length, List.length_take, HRL.out] at hl
          obtain ⟨b, o, rfl, hcell⟩ := hxl (by rw [HRL.out]; omega)
          refine ⟨b, o, rfl, fun j hj => ?_⟩
          rw [i64s_length, List.length_take, HRL.out] at hj
          rw [hcell j (by rw [HRL.out]; omega), i64s_at (by rw [List.length_take, HRL.out]; exact hj), getD_take _ (by omega)])
        have HVL := Lib.hid hvl
        clear hxl
        subst hvl
        go_wp2_with fail
        refine (goes_any _ _ ((rowOf l (p : Int)).take L) (bmOut p st) n p (w3.drewN q) HSL.out HOB4.out (by omega) (by rw [HOUT.out]; omega) (by rw [HOUT.out, List.length_take, HRL.out]; omega) hp1 hpb).mono ?_
        rw [HMAKE.out]
        rintro e w5 ⟨v5, rfl, ho, hf⟩
        have HO5 := Lib.hid ho.sl
        have HLO5 := Lib.hid (HLO4.out.keep0 hf).sl
        have F5 : Hid (Fr [] w w5) := Lib.hid ((F3.out.drewN q).trans0 hf)
        clear ho hf
        go_wp2_with fail
        refine (sameLongs_any _ _ (rowOf l p) (rowOf l p) w5 HO5.out HLO5.out (by rw [HRL.out]; omega) (by rw [HRL.out]; omega)).mono ?_
        rw [show decide (rowOf l (p : Int) = rowOf l p) = true by simp]
        rintro e w6 ⟨rfl, q2, rfl⟩
        go_wp2_with fail
        refine (awake_any _ (HT.out.keep0 (F5.out.drewN q2))).mono ?_
        rintro e w7 ⟨rfl, hf⟩
        have F7 := Lib.hid ((F5.out.drewN q2).trans0 hf)
        clear hf
        go_wp2
        go_ret
        exact ⟨rfl, F7.out⟩
    · have hi2 : i < n := by omega
      obtain ⟨b, o, rfl, hxx⟩ := HX.out (by omega)
      have hcx := hxx i hi2
      have hrow := rowOf_take l (p : Int) (i := i) (by rw [← HN.out]; exact hi2)
      have hlike := likeOf_take l (p : Int) (i := i) (by rw [← HN.out]; exact hi2)
      obtain ⟨x, hx⟩ : ∃ x, x = l.getD i 0 := ⟨_, rfl⟩
      rw [← hx] at hcx hrow hlike
      have hcx2 : wm.cell? ⟨b, o + i, none⟩ = some (.int .i64 x) := ((F1.out.trans0 HF.out).cell (World.block_lt_of_cell? w _ hcx) (by simp)).trans hcx
      obtain ⟨h1, h2, h3⟩ := tmod_facts x hp1
      obtain ⟨r, hr⟩ : ∃ r, r = x.tmod p := ⟨_, rfl⟩
      obtain ⟨y, hy⟩ : ∃ y, y = x % (p : Int) := ⟨_, rfl⟩
      have hy0 := Int.emod_nonneg x (show (p : Int) ≠ 0 by omega)
      have hy1 := Int.emod_lt_of_pos x (show (0 : Int) < p by omega)
      rw [← hr] at h1 h2 h3
      rw [← hy] at h3 hy0 hy1 hrow hlike
      have e1 : x.tmod (p : Int) = r := hr.symm
      have hpz : ((p : Int) == 0) = false := by simp; omega
      obtain ⟨m5, hm5⟩ : ∃ m5, m5 = i % 5 := ⟨_, rfl⟩
      rw [← hm5] at hlike
      have hm55 : m5 < 5 := by omega
      have e4 : (i : Int) % 5 = (m5 : Int) := by omega
      obtain ⟨pm, hpm⟩ : ∃ pm, pm = (p : Int) * (m5 : Int) := ⟨_, rfl⟩
      have hpmb : 0 ≤ pm ∧ pm ≤ 10737418240 := by
        rw [hpm]
        refine ⟨Int.mul_nonneg (by omega) (by omega), ?_⟩
        have := Int.mul_le_mul (a := (p : Int)) (b := (m5 : Int)) (c := 2147483648) (d := 5) (by omega) (by omega) (by omega) (by omega)
        omega
      obtain ⟨hpm0, hpm1⟩ := hpmb
      rw [← hpm] at hlike
      have e5 : (p : Int) * (m5 : Int) = pm := hpm.symm
      have HROW := Lib.hid hrow
      have HLIKE := Lib.hid hlike
      have HYR : Hid (Ri y ∧ Ri (y - pm)) := Lib.hid (by unfold Ri; omega)
      have HLL : Hid (((rowOf l (p : Int)).take i).length ≤ 100 ∧ ((likeOf l (p : Int)).take i).length ≤ 100) := Lib.hid (by rw [List.length_take, List.length_take]; omega)
      clear hxx hcx hrow hlike hx hr hy hm5 hpm hin
      go_wp2_with (first
        | (at_builtin; refine wp_appendIat rfl _ _ rfl w1.heap.size u9 ((rowOf l p).take i) rfl (HLO.out.keep0 ((Fr.refl [] wm).alloc _)) wm.heap.size 0 1 [y] rfl (by intro j hj; match j, hj with | 0, _ => simp [World.cell?_alloc_new]) (by intro z hz; simp at hz; subst hz; exact HYR.out.1) (by have := HLL.out; simp; omega) (by simp; omega) ?_; intro v9 w2 ho hfr hat; have HO9 := Lib.hid ho; have HFR9 := Lib.hid hfr; have HAT9 : Hid (v9.ownBlock = u9.ownBlock ∨ v9.ownBlock = some (wm.heap.size + 1)) := Lib.hid (hat.elim (fun h => .inl h) (fun h => .inr (h.trans (by simp)))); have hs2 : wm.heap.size + 1 ≤ w2.heap.size := (by have := hfr.size; simp at this; omega); have HLK2 : Hid (OwI w2 w1.heap.size u8 ((likeOf l p).take i)) := Lib.hid ((HLK.out.keep0 ((Fr.refl [] wm).alloc _)).keep hfr (by intro x hx hm; have h2 : u9.ownBlock = some x := (by simpa using hm); exact HSEP.out x h2 hx)); have HF2 : Hid (Fr [] w1 w2) := Lib.hid ((HF.out.alloc _).trans_ownI (HLO.out.keep0 ((Fr.refl [] wm).alloc _)) hfr); have HSEP2 : Hid (∀ x, v9.ownBlock = some x → u8.ownBlock ≠ some x) := Lib.hid (by intro x hx; rcases HAT9.out with h | h; exact HSEP.out x (h ▸ hx); (rw [h] at hx; simp at hx; intro h8; have := (HLK.out.lt h8).2; omega)); clear ho hfr hat)
        | (at_builtin; refine wp_appendIat rfl _ _ rfl w1.heap.size u8 ((likeOf l p).take i) rfl (HLK2.out.keep0 ((Fr.refl [] w2).alloc _)) w2.heap.size 0 1 [y - pm] rfl (by intro j hj; match j, hj with | 0, _ => simp [World.cell?_alloc_new]) (by intro z hz; simp at hz; subst hz; exact HYR.out.2) (by have := HLL.out; simp; omega) (by simp; omega) ?_; intro v8 w3 ho hfr hat; have HO8 := Lib.hid ho; have HAT8 : Hid (v8.ownBlock = u8.ownBlock ∨ v8.ownBlock = some (w2.heap.size + 1)) := Lib.hid (hat.elim (fun h => .inl h) (fun h => .inr (h.trans (by simp)))); have HLO3 : Hid (OwI w3 w1.heap.size v9 ((rowOf l p).take i ++ [y])) := Lib.hid ((HO9.out.keep0 ((Fr.refl [] w2).alloc _)).keep hfr (by intro x hx hm; have h2 : u8.ownBlock = some x := (by simpa using hm); exact HSEP2.out x hx h2)); have HF3 : Hid (Fr [] w1 w3) := Lib.hid ((HF2.out.alloc _).trans_ownI (HLK2.out.keep0 ((Fr.refl [] w2).alloc _)) hfr); have HSEP3 : Hid (∀ x, v9.ownBlock = some x → v8.ownBlock ≠ some x) := Lib.hid (by intro x hx; rcases HAT8.out with h | h; (rw [h]; exact HSEP2.out x hx); (rw [h]; simp; have := (HO9.out.lt hx).2; omega)); clear ho hfr hat))
      go_roundw
      case rel => exact ⟨i + 1, by omega, by go_num, Lib.hid (by rw [HROW.out]; exact HLO3.out), Lib.hid (by rw [HLIKE.out]; exact HO8.out), HSEP3, HF3⟩
      case measure => simp [intOf]; omega
end Go.Proofs.YtedoeadhbcjjgaaDoor

/- From the laid table to the walks' premise; arguments that come in. -/
namespace Go.Proofs.YtedoeadhbcjjgaaDoor
open Go.ChangeShapes Go.WideShapes Go.ChangeAt Go.WideElems Go.RowKit

theorem own : ownKnob Tryd.prog.godebug = none := by kernel_rfl
theorem laidOut : laidOutB Tryd.prog = true := by kernel_rfl
theorem gTab : Tryd.prog.globalNamed "math/bits.deBruijn64tab" = some 0 := by kernel_rfl
theorem tTab : (Tryd.prog.globals[0]?).map (·.type) = some 107 := by kernel_rfl
def tabLaid : List (String × DataW Unit) := [("math/bits.deBruijn64tab", Rows.laid_math_bits_deBruijn64tab)]
theorem tab_list {H : Type} : (Rows.laid_math_bits_deBruijn64tab : DataW H) = .agg (Lib.deBruijn64tab.map fun (n : Nat) => .lit (.int .u8 (n : Int))) := rfl

theorem hasTab_of_laid {W : World} (h : laidMetH Tryd.prog tabLaid W) : HasTab W := by
  rw [MakeChecks.laidMetH_plain _ _ _ (by kernel_rfl)] at h
  obtain ⟨ps, ⟨g0, t0, cs0, f0, p0, q0, hg0, ht0, hv0, hd0, _, _⟩, _, _⟩ := h
  obtain rfl := Option.some.inj (gTab.symm.trans hg0)
  obtain rfl := Option.some.inj (tTab.symm.trans ht0)
  obtain ⟨xs, m1, rfl, hx1, hlen, hn3, hel⟩ := DataW.trod_array Tryd.underlying107 hd0
  have c3 : Tryd.prog.cellsOf 5 = 1 := by kernel_rfl
  rw [tab_list] at hx1
  simp only [Prod.mk.injEq, DataW.agg.injEq] at hx1
  have hcell : ∀ j, j < 64 → W.cell? ⟨0, j, none⟩ = some (.int .u8 ((Lib.deBruijn64tab.getD j 0 : Nat) : Int)) := by
    intro j hj
    have hj2 : j < xs.length := by omega
    have h1 := hel j hj
    rw [show xs[j]? = some xs[j] by simp [hj2], c3, Nat.mul_one] at h1
    obtain ⟨k, e1, e2, _⟩ := DataW.trod_int Tryd.underlying5 h1
    have e3 : (xs.map (·.1))[j]? = (Lib.deBruijn64tab.map fun (n : Nat) => (DataW.lit (.int .u8 (n : Int)) : DataW _))[j]? := by rw [← hx1.1]
    have hl64 : Lib.deBruijn64tab.length = 64 := by decide
    have hj4 : j < Lib.deBruijn64tab.length := by omega
    have hk : k = ((Lib.deBruijn64tab.getD j 0 : Nat) : Int) := by
      rw [List.getElem?_map, List.getElem?_map] at e3
      simp only [List.getElem?_eq_getElem hj2, List.getElem?_eq_getElem hj4, Option.map_some, Option.some.injEq] at e3
      rw [e2] at e3
      simp only [DataW.lit.injEq, Lit.int.injEq, true_and] at e3
      rw [e3]; simp [List.getD, hj4]
    rw [World.var?_cell hg0 hv0 j]
    have e4 : cs0.toList[j]? = some (.int .u8 k) := by
      have e5 : (List.take 1 (List.drop j cs0.toList))[0]? = some (.int .u8 k) := by rw [e1]; rfl
      rw [List.getElem?_take, if_pos (by omega), List.getElem?_drop] at e5
      simpa using e5
    rw [hk] at e4
    simpa using e4
  refine ⟨?_, ?_, ?_⟩
  · exact World.block_lt_of_cell? W _ (hcell 0 (by omega))
  · intro hi
    exact hi.cell_not (hcell 0 (by omega)) (.inl ⟨_, _, rfl⟩)
  · intro j hj
    exact hcell j (by have : Lib.deBruijn64tab.length = 64 := by decide
                      omega)
theorem door_met (os : Os) (args : Array Value) : laidMetH Tryd.prog tabLaid ((World.doorLaid Tryd.prog 400 os).forCall (fun _ _ => 0) ⟨#[], args, []⟩).memory :=
  laidMetH_of_parts3 (fuel := 100) (laidMet_of_run' 100 (by kernel_rfl) (by kernel_rfl)) (by kernel_rfl) (by kernel_rfl)

/-- A slice that came in. -/
theorem in_ints {H : Type} {enc : TypeId × Value → H} {W : World} {base fuel : Nat} {held : Bool} {a0 : Option Addr} {len cap : Nat} {x : DataW H × List MemPlace}
    (h : DataW.trod enc Tryd.prog W base (fun _ => true) held fuel 22 (Value.slice a0 len cap).cells.toList = some x) : ∃ zs : List Int, SlI W (.slice a0 len cap) zs ∧ len ≤ 9223372036854775807 := by
  have c2 : Tryd.prog.cellsOf 2 = 1 := by kernel_rfl
  rcases open_ints Tryd.underlying22 Tryd.underlying2 c2 h with ⟨hcs, _⟩ | ⟨a, len', cap', zs, hcs, _, hl, hm, hz, _, hcell, hwz⟩
  · simp [Value.cells] at hcs
    obtain ⟨rfl, rfl, rfl⟩ := hcs
    exact ⟨[], SlI_nil _ _ _, by omega⟩
  · simp [Value.cells] at hcs
    obtain ⟨rfl, rfl, rfl⟩ := hcs
    simp only [if_true] at hz
    unfold maxLen at hm
    refine ⟨zs.take len, ⟨some a, cap, by rw [List.length_take, Nat.min_eq_left (by omega)], by rw [List.length_take]; omega, fun y hy => bounds_i64 (hwz y (List.mem_of_mem_take hy)), fun h0 => ?_⟩, by omega⟩
    rw [i64s_length, List.length_take] at h0
    obtain ⟨b, off, spot⟩ := a
    have hspot : spot = none := by simpa [Addr.add] using World.cell?_spot (hcell 0 (by omega))
    subst hspot
    refine ⟨b, off, rfl, fun j hj => ?_⟩
    rw [i64s_length, List.length_take] at hj
    have h1 := hcell j (by omega)
    rw [add_plain] at h1
    rw [h1, i64s_at (by rw [List.length_take]; omega), getD_take _ (by omega)]
end Go.Proofs.YtedoeadhbcjjgaaDoor

/- rosettelaw25.RecurShortest: the walk. -/
namespace Go.Proofs.YtedoeadhbcjjgaaDoor
open Go.RowKit

/-- The beginning of a slice. -/
theorem SlI.pre {w : World} {A : Option Addr} {m c n : Nat} {xs : List Int} (h : SlI w (.slice A m c) xs) (hn : n ≤ m) : SlI w (.slice A n c) (xs.take n) := by
  have hl := h.len
  have hc' : m ≤ c := by
    obtain ⟨_, _, e, hc, _⟩ := h.open_
    simp only [Value.slice.injEq] at e; omega
  have hr : ∀ x ∈ xs, Ri x := by obtain ⟨_, _, _, _, h, _⟩ := h; exact h
  refine ⟨A, c, by rw [List.length_take, Nat.min_eq_left (by omega)], by rw [List.length_take]; omega, fun x hx => hr x (List.mem_of_mem_take hx), fun h0 => ?_⟩
  rw [i64s_length, List.length_take] at h0
  obtain ⟨b, o, rfl, _⟩ := h.get (k := 0) (by omega)
  refine ⟨b, o, rfl, fun j hj => ?_⟩
  rw [i64s_length, List.length_take] at hj
  obtain ⟨b', o', e, h2⟩ := h.get (k := j) (by omega)
  simp only [Option.some.injEq, Addr.mk.injEq, and_true] at e
  obtain ⟨rfl, rfl⟩ := e
  rw [h2, i64s_at (by rw [List.length_take]; omega), getD_take _ (by omega)]
theorem goesL_ins (first rule : List Int) {p : Nat} (hp : 1 < p) (n : Nat) : Ins p (goesL first rule p n) := fun x hx => goesL_range first rule (by omega) n x hx

set_option maxRecDepth 1000000 in
set_option maxHeartbeats 16000000 in
theorem recurShortest_walk (va vb : Value) (xs ys : List Int) (more k : Int) (w : World) (ha : SlI w va xs) (hb : SlI w vb ys) (hla : xs.length ≤ 9223372036854775807) (hlb : ys.length ≤ 9223372036854775807) (hm : Ri more) (hk : Ri k) (hT : HasTab w) :
    Calls Tryd.prog 3 #[va, vb, .int .i64 more, .int .i64 k] w (Yes true w) := by
  have HA := Lib.hid ha
  have HB := Lib.hid hb
  have HT := Lib.hid hT
  have HK := Lib.hid hk
  have HMO := Lib.hid hm
  obtain ⟨A, ca, rfl, hca, _⟩ := ha.open_
  obtain ⟨B, cb, rfl, hcb, _⟩ := hb.open_
  obtain ⟨na, hna⟩ : ∃ na, na = xs.length := ⟨_, rfl⟩
  obtain ⟨nb, hnb⟩ : ∃ nb, nb = ys.length := ⟨_, rfl⟩
  rw [← hna] at HA hca hla ⊢
  rw [← hnb] at HB hcb hlb ⊢
  obtain ⟨n, hn⟩ : ∃ n, n = min (min na nb) 8 := ⟨_, rfl⟩
  have hn8 : n ≤ 8 := by omega
  have hna2 : n ≤ na := by omega
  have hnb2 : n ≤ nb := by omega
  have hmin : min (min (na : Int) (nb : Int)) 8 = (n : Int) := by omega
  have HXA := Lib.hid (HA.out.pre hna2)
  have HXB := Lib.hid (HB.out.pre hnb2)
  have HXL : Hid ((xs.take n).length = n ∧ (ys.take n).length = n) := Lib.hid ⟨by rw [List.length_take]; omega, by rw [List.length_take]; omega⟩
  obtain ⟨p, hp⟩ : ∃ p, p = primeAt k := ⟨_, rfl⟩
  have HP : Hid (p ∈ nine) := Lib.hid (by rw [hp]; exact nine_mem k)
  obtain ⟨hp1, hpb⟩ := nine_two HP.out
  have HPK := Lib.hid hp
  have hq0 := Int.emod_nonneg more (show (10 : Int) ≠ 0 by omega)
  have hq1 := Int.emod_lt_of_pos more (show (0 : Int) < 10 by omega)
  obtain ⟨q, hq⟩ : ∃ q : Nat, (q : Int) = more % 10 := ⟨(more % 10).toNat, by omega⟩
  have hq9 : q < 10 := by omega
  have HPICK : Hid (∀ w0, Calls Tryd.prog 7 #[.int .i64 more, .int .i64 10] w0 fun e w' => e = .returned (.int .i64 (q : Int)) ∧ w0 = w') := Lib.hid (fun w0 => by rw [hq]; exact pick_any more 10 w0 hm (by omega) (by omega))
  obtain ⟨N, hN⟩ : ∃ N, N = 2 * n + q := ⟨_, rfl⟩
  have e1 : 2 * (n : Int) + (q : Int) = (N : Int) := by omega
  have hN25 : N ≤ 25 := by omega
  have hnN : 2 * n ≤ N := by omega
  have e2 : IntKind.i64.wrap (2 * (n : Int)) = 2 * (n : Int) := IntWalk.i64_in _ (by omega)
  have e3 : IntKind.i64.wrap (N : Int) = (N : Int) := IntWalk.i64_in _ (by omega)
  clear ha hb hT hk hm hna hnb hn hp hq hq0 hq1 hN
  go_enter Tryd.func3, Tryd.ntmps3
  go_wp2_with fail
  refine (primes_any k w HK.out).mono ?_
  rw [← HPK.out]
  rintro e w0 ⟨rfl, hf⟩
  have F0 := Lib.hid hf
  clear hf
  go_wp2_with fail
  all_goals first | rw [show (8 : Int) = (n : Int) by omega] | rw [show (na : Int) = (n : Int) by omega] | rw [show (nb : Int) = (n : Int) by omega]
  all_goals
    have hnca : n ≤ ca := by omega
    have hncb : n ≤ cb := by omega
    refine wp_region_lexP [(0, false), (1, false), (2, false), (3, false), (4, false), (5, false), (6, false), (7, false), (8, false), (11, false), (9, true), (10, false), (12, true), (13, true)] (fun _ => True) 12 (by kernel_rfl) (by kernel_rfl) (fun _ _ d _ _ h => by cases d <;> exact h) trivial ?_
    iterate 10 (refine lexP_yield (by rfl) (by rfl) (by intro w hSw; (try dsimp only at hSw); go_simp; (try simp only [hnca, hncb, if_true]); (try rfl)) ?_; simp only [Act.put, List.setIfInBounds_toArray, List.set_cons_zero, List.set_cons_succ])
    refine lexP_step (by rfl) (by rfl) (fun K hK => ?_)
    go_simp
    go_at_call 7
    refine (HPICK.out _).mono ?_
    rintro e w1 ⟨rfl, rfl⟩
    refine hK.out _ _ (fun _ => trivial) ?_
    clear hK K
    try simp only [Act.put, List.setIfInBounds_toArray, List.set_cons_zero, List.set_cons_succ]
    refine lexP_yield (by rfl) (by rfl) (by intro w hSw; (try dsimp only at hSw); go_simp; (try simp only [hnca, hncb, if_true]); (try rfl)) ?_
    try simp only [Act.put, List.setIfInBounds_toArray, List.set_cons_zero, List.set_cons_succ]
    refine lexP_step (by rfl) (by rfl) (fun K hK => ?_)
    go_simp
    have FD0 : Hid (Fr [] w w0.drew) := Lib.hid F0.out.drew
    go_at_call 6
    refine (goes_any _ _ (xs.take n) (ys.take n) N p _ (HXA.out.keep0 FD0.out) (HXB.out.keep0 FD0.out) (by omega) (by rw [HXL.out.2]; omega) (by rw [HXL.out.1, HXL.out.2]; omega) hp1 hpb).mono ?_
    obtain ⟨l, hl⟩ : ∃ l, l = goesL (xs.take n) (ys.take n) (p : Int) N := ⟨_, rfl⟩
    have HLD := Lib.hid hl
    have HLL : Hid (l.length = N) := Lib.hid (by rw [hl]; exact goesL_length _ _ _ _)
    have HLI : Hid (Ins p l) := Lib.hid (by rw [hl]; exact goesL_ins _ _ hp1 _)
    have HLS : Hid ((bmRun p l N).size ≤ n) := Lib.hid (by have h := bm_short hp1 (nine_inv HP.out) (xs.take n) (ys.take n) N; rw [← hl, HXL.out.2] at h; exact h)
    rw [← hl]
    clear hl
    rintro e w2 ⟨vl, rfl, ho, hf⟩
    have HVL := Lib.hid ho.sl
    have F2 : Hid (Fr [] w w2) := Lib.hid (FD0.out.trans0 hf)
    clear ho hf FD0
    refine hK.out _ _ (fun h => absurd h (by decide)) ?_
    clear hK K
    try simp only [Act.put, List.setIfInBounds_toArray, List.set_cons_zero, List.set_cons_succ]
    refine lexP_step (by rfl) (by rfl) (fun K hK => ?_)
    go_simp
    refine hK.out _ _ (fun h => absurd h (by decide)) ?_
    clear hK K
    refine lexP_done ?_
    clear h e1 e2 e3
    obtain ⟨Al, cl, rfl, hcl, _⟩ := HVL.out.open_
    rw [HLL.out] at hcl HVL ⊢
    go_wp2_with fail
    refine (shortest_any _ l p w2 HVL.out (by rw [HLL.out]; omega) HP.out (HT.out.keep0 F2.out)).mono ?_
    rintro e w3 ⟨vb, hf, hcase⟩
    have F3 : Hid (Fr [] w w3) := Lib.hid (F2.out.trans0 hf)
    rw [rowOf_of_in HLI.out, HLL.out] at hcase
    obtain ⟨st, hst⟩ : ∃ st, st = bmRun p l N := ⟨_, rfl⟩
    rw [← hst] at hcase HLS
    have hsn := HLS.out
    obtain ⟨hob, rfl⟩ : OwI w3 w2.heap.size vb (bmOut p st) ∧ e = .returned (.tuple #[vb, .int .i64 0]) := by rcases hcase with ⟨h0, _⟩ | ⟨_, h1, h2⟩; omega; exact ⟨h1, h2⟩
    have HVB := Lib.hid hob.sl
    have HVL3 := Lib.hid (HVL.out.keep0 hf)
    have HST := Lib.hid hst
    have HOUT : Hid ((bmOut p st).length = st.size) := Lib.hid (bmOut_length p st)
    obtain ⟨Ab, cb2, rfl, hcb2, _⟩ := hob.sl.open_
    rw [HOUT.out] at hcb2 HVB ⊢
    obtain ⟨L, hL⟩ : ∃ L, L = st.size := ⟨_, rfl⟩
    rw [← hL] at hsn hcb2 HVB HOUT ⊢
    have HLE := Lib.hid hL
    have HINB : Hid (∀ i, i < L → 0 ≤ (bmOut p st).getD i 0 ∧ (bmOut p st).getD i 0 < (p : Int)) := Lib.hid (fun i hi => by
      have hi2 : i < (bmOut p st).length := by rw [HOUT.out]; exact hi
      have h := bmOut_in hp1 st _ (List.getElem_mem hi2)
      rw [show (bmOut p st).getD i 0 = (bmOut p st)[i] by simp [List.getD, hi2]]
      exact h)
    clear hf hcase hob hst hL HLS HVL
    have e1 : decide ((n : Int) < (L : Int)) = false := by simp; omega
    go_wp2_with fail
    go_loopw [14] (fun iv wr => ∃ i : Nat, i ≤ L ∧ iv = .int .i64 (i : Int) ∧ Hid (Fr [] w3 wr)) (fun iv _ => L - (intOf iv).toNat)
    case atStart => exact ⟨0, by omega, rfl, Lib.hid (Fr.refl _ _)⟩
    case round =>
      obtain ⟨i, hi, rfl, HF⟩ := hrel
      obtain ⟨wm, rfl⟩ : ∃ wm : World, wm = wr := ⟨_, rfl⟩
      by_cases hin : i = L
      · have hin' := hin.symm
        subst hin'
        obtain ⟨w4, rfl⟩ : ∃ w4 : World, w4 = wm := ⟨_, rfl⟩
        clear hin hi
        have F4 : Hid (Fr [] w w4) := Lib.hid (F3.out.trans0 HF.out)
        have HVL4 := Lib.hid (HVL3.out.keep0 HF.out)
        have HVB4 := Lib.hid (HVB.out.keep0 HF.out)
        have HLR : Hid (∀ x ∈ l, Ri x) := Lib.hid (Ins.ri hpb HLI.out)
        have HPRE := Lib.hid (HVL4.out.pre (n := L) (by omega))
        obtain ⟨M, hM⟩ : ∃ M, M = N + 5 := ⟨_, rfl⟩
        have e3 : (N : Int) + 5 = (M : Int) := by omega
        have e4 : IntKind.i64.wrap (M : Int) = (M : Int) := IntWalk.i64_in _ (by omega)
        have hLcl : L ≤ cl := by omega
        have HMAKE : Hid (goesL (l.take L) (bmOut p st) (p : Int) N = l) := Lib.hid (by
          have h := bm_makes_all hp1 (nine_inv HP.out) HLI.out
          rw [HLL.out, ← HST.out, ← HLE.out] at h
          exact h)
        have HSTAY : Hid (bmOut p (bmRun p (goesL (l.take L) (bmOut p st) (p : Int) M) M) = bmOut p st ∧ (bmRun p (goesL (l.take L) (bmOut p st) (p : Int) M) M).size = L) := Lib.hid (by
          have h := bm_stays hp1 (nine_inv HP.out) HLI.out 5
          rw [HLL.out, ← HST.out, ← HLE.out, ← hM] at h
          exact ⟨bmOut_congr h.1 (h.2.trans HLE.out), h.2⟩)
        have hM30 : M ≤ 30 := by omega
        have hLM : 2 * L ≤ M := by omega
        have hLTL : Hid ((l.take L).length = L) := Lib.hid (by rw [List.length_take, HLL.out]; omega)
        clear hM
        go_wp2_with fail
        refine (goes_any _ _ (l.take L) (bmOut p st) N p w4 HPRE.out HVB4.out (by omega) (by rw [HOUT.out]; omega) (by rw [HOUT.out, hLTL.out]; omega) hp1 hpb).mono ?_
        rw [HMAKE.out]
        rintro e w5 ⟨v5, rfl, ho, hf⟩
        have HV5 := Lib.hid ho.sl
        have F45 := Lib.hid hf
        have HVL5 := Lib.hid (HVL4.out.keep0 hf)
        clear ho hf
        go_wp2_with fail
        refine (sameLongs_any _ _ l l w5 HV5.out HVL5.out (by rw [HLL.out]; omega) (by rw [HLL.out]; omega)).mono ?_
        rw [show decide (l = l) = true by simp]
        rintro e w6 ⟨rfl, q2, rfl⟩
        have F46 := Lib.hid (F45.out.drewN q2)
        have HPRE6 := Lib.hid (HPRE.out.keep0 F46.out)
        have HVB6 := Lib.hid (HVB4.out.keep0 F46.out)
        go_wp2_with fail
        refine (goes_any _ _ (l.take L) (bmOut p st) M p _ HPRE6.out HVB6.out (by omega) (by rw [HOUT.out]; omega) (by rw [HOUT.out, hLTL.out]; omega) hp1 hpb).mono ?_
        obtain ⟨long, hlong⟩ : ∃ long, long = goesL (l.take L) (bmOut p st) (p : Int) M := ⟨_, rfl⟩
        have HGI : Hid (Ins p long) := Lib.hid (by rw [hlong]; exact goesL_ins _ _ hp1 _)
        have HGL : Hid (long.length = M) := Lib.hid (by rw [hlong]; exact goesL_length _ _ _ _)
        rw [← hlong] at HSTAY ⊢
        rintro e w7 ⟨v7, rfl, ho, hf⟩
        have HV7 := Lib.hid ho.sl
        have F47 : Hid (Fr [] w4 w7) := Lib.hid (F46.out.trans0 hf)
        have F7 : Hid (Fr [] w w7) := Lib.hid (F4.out.trans0 F47.out)
        clear ho hf hlong
        go_wp2_with fail
        refine (shortest_any _ long p w7 HV7.out (by rw [HGL.out]; omega) HP.out (HT.out.keep0 F7.out)).mono ?_
        rw [show ShPost long p w7 = fun e w' => ShPost long p w7 e w' from rfl]
        rintro e w8 ⟨vc, hf, hcase⟩
        rw [rowOf_of_in HGI.out, HGL.out, HSTAY.out.1, HSTAY.out.2] at hcase
        obtain ⟨hoc, rfl⟩ : OwI w8 w7.heap.size vc (bmOut p st) ∧ e = .returned (.tuple #[vc, .int .i64 0]) := by rcases hcase with ⟨h0, _⟩ | ⟨_, h1, h2⟩; omega; exact ⟨h1, h2⟩
        have HV8 := Lib.hid hoc.sl
        have F8 : Hid (Fr [] w w8) := Lib.hid (F7.out.trans0 hf)
        have HVB8 := Lib.hid (HVB4.out.keep0 (F47.out.trans0 hf))
        clear hoc hcase hf
        go_wp2_with fail
        refine (sameLongs_any _ _ (bmOut p st) (bmOut p st) w8 HV8.out HVB8.out (by rw [HOUT.out]; omega) (by rw [HOUT.out]; omega)).mono ?_
        rw [show decide (bmOut p st = bmOut p st) = true by simp]
        rintro e w9 ⟨rfl, q3, rfl⟩
        go_wp2_with fail
        refine (awake_any _ (HT.out.keep0 (F8.out.drewN q3))).mono ?_
        rintro e w10 ⟨rfl, hf⟩
        have F10 := Lib.hid ((F8.out.drewN q3).trans0 hf)
        clear hf
        go_wp2
        go_ret
        exact ⟨rfl, F10.out⟩
      · have hi2 : i < L := by omega
        obtain ⟨b, o, rfl, hcx⟩ := HVB.out.get hi2
        obtain ⟨h1, h2⟩ := HINB.out i hi2
        obtain ⟨x, hx⟩ : ∃ x, x = (bmOut p st).getD i 0 := ⟨_, rfl⟩
        rw [← hx] at hcx h1 h2
        have hcx2 : wm.cell? ⟨b, o + i, none⟩ = some (.int .i64 x) := (HF.out.cell (World.block_lt_of_cell? w3 _ hcx) (by simp)).trans hcx
        have e2 : decide (x < 0) = false := by simp; omega
        have e3 : decide ((p : Int) ≤ x) = false := by simp; omega
        clear hcx hx hin
        go_wp2
        go_roundw
        case rel => exact ⟨i + 1, by omega, by go_num, HF⟩
        case measure => simp [intOf]; omega
end Go.Proofs.YtedoeadhbcjjgaaDoor
