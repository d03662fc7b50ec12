/- Joined by program (merge.py) out of 2 texts, a part of the proof: contracts of the functions that the statement reaches, and plain mathematics. No statement of the seat stands here. -/
import Derived.Test.YtedoeadhbcjjgaaDoorG18
import Derived.Test.YtedoeadhbcjjgaaDoorG01
/- big.Int.Bytes, exact.Limbs, exact.Told. -/
namespace Go.Proofs.YtedoeadhbcjjgaaDoor
open Go.RowKit

theorem enough_bits (a : Nat) : Enough (limbs a) ((bitsOf a + 7) / 8) ∧ bitsOf a ≤ 64 * (limbs a).length := by
  unfold bitsOf
  by_cases h : a = 0
  · subst h
    rw [limbs_zero]
    simp [Enough]
  · have ht := limbs_top h
    have hl : 0 < (limbs a).length := List.length_pos_iff.2 (limbs_ne h)
    obtain ⟨b1, b2, b3, b4⟩ := bitLen_bounds ht ((Bd_limbs a).getD _)
    obtain ⟨t, htd⟩ : ∃ t, t = (limbs a).getD ((limbs a).length - 1) 0 := ⟨_, rfl⟩
    rw [← htd] at b1 b2 b3 b4 ⊢
    obtain ⟨L, hL⟩ : ∃ L, L = (limbs a).length := ⟨_, rfl⟩
    unfold Enough
    rw [← hL] at htd hl ⊢
    obtain ⟨b, hb⟩ : ∃ b, b = bitLen t := ⟨_, rfl⟩
    rw [← hb] at b1 b2 b3 b4 ⊢
    refine ⟨⟨by omega, .inr ⟨by omega, ?_⟩⟩, by omega⟩
    rw [← htd]
    exact Nat.lt_of_lt_of_le b3 (Nat.pow_le_pow_right (by omega) (by omega))

def BytesPost (a : Nat) (w : World) (e : Ending) (w' : World) : Prop := ∃ g n, Enough (limbs a) n ∧ w.heap.size ≤ g ∧ e = .returned (.slice (some ⟨g, 0, none⟩) n n) ∧ RowB w' w.heap.size g n (bytesOf (limbs a) n) ∧ Fr [] w w'

set_option maxRecDepth 100000 in
set_option maxHeartbeats 4000000 in
theorem bytes_any (gx : Nat) (a : Nat) (w : World) (hx : BigAt w gx (a : Int)) (hl : (limbs a).length ≤ 1000000) :
    Calls Tryd.prog 81 #[.pointer (some ⟨gx, 0, none⟩)] w (BytesPost a w) := by
  obtain ⟨A, m, c, hc0, hc1, _, _, hs⟩ := hx.cells
  rw [Int.natAbs_natCast] at hs
  have hm := hs.len
  obtain ⟨hen, hbl⟩ := enough_bits a
  obtain ⟨B, hB⟩ : ∃ B, B = bitsOf a := ⟨_, rfl⟩
  have HSZ := Lib.hid (size_any (.slice A m c) a w hs (by omega))
  unfold SizePost at HSZ
  rw [← hB] at hen hbl HSZ
  obtain ⟨n, hn⟩ : ∃ n, n = (B + 7) / 8 := ⟨_, rfl⟩
  rw [← hn] at hen
  have HEN := Lib.hid hen
  have hgl := hx.lt
  have hBb : B ≤ 64000000 := by omega
  have hnb : n ≤ 8000001 := by omega
  have e8 : ((B : Int) + 7) / 8 = (n : Int) := by omega
  obtain ⟨xs, hxs⟩ : ∃ xs, xs = limbs a := ⟨_, rfl⟩
  have HBD : Hid (Bd xs) := Lib.hid (by rw [hxs]; exact Bd_limbs a)
  rw [← hxs] at hs hm HEN
  have HS := Lib.hid hs
  have HXS := Lib.hid hxs
  have HMM := Lib.hid hm
  clear hs hB hn hen hbl hx hxs hm hl hc0
  go_enter Tryd.func81, Tryd.ntmps81
  go_wp2_with (first
    | (go_at_call 59; refine HSZ.out.mono ?_; rintro e w' ⟨rfl, rfl⟩)
    | (at_make; (try simp only [e8]); refine wp_makeB rfl _ _ rfl _ _ n rfl rfl (by first | rfl | exact e8 | omega) (by first | rfl | exact e8 | omega) (by omega) w.heap.size (Nat.le_refl _) ?_; intro w1 hown hgrow hsz; have HO := Lib.hid hown; have HG := Lib.hid hgrow; clear hown hgrow))
  obtain ⟨g, hg⟩ : ∃ g, g = w.heap.size := ⟨_, rfl⟩
  rw [← hg] at HO hsz ⊢
  have HGG := Lib.hid hg
  have HR0 : Hid (RowB w1 g g n (fillN (fun i => byteAt xs (n - 1 - i)) n 0)) := Lib.hid (by rw [fillN_zero]; exact HO.out)
  clear hg HO e8
  go_loopw [17] (fun iv wr => ∃ k : Nat, k ≤ n ∧ iv = .int .i64 (k : Int) ∧ Hid (RowB wr g g n (fillN (fun i => byteAt xs (n - 1 - i)) n k)) ∧ Hid (Fr [g] w1 wr)) (fun iv _ => n - (intOf iv).toNat)
  case atStart => exact ⟨0, by omega, rfl, HR0, Lib.hid (Fr.refl _ _)⟩
  case round =>
    obtain ⟨k, hk, rfl, HR, HF⟩ := hrel
    have FW : Hid (Fr [] w wr) := Lib.hid (HG.out.own1 HF.out (by rw [HGG.out]; exact Nat.le_refl _))
    by_cases hkN : k = n
    · have hkN' := hkN.symm
      subst hkN'
      clear hkN
      go_wp2
      go_ret
      exact ⟨g, n, by rw [← HXS.out]; exact HEN.out, by rw [HGG.out]; exact Nat.le_refl _, rfl, by rw [← HXS.out, ← HGG.out]; exact HR.out, FW.out⟩
    · have hk2 : k < n := by omega
      obtain ⟨t, ht⟩ : ∃ t, t = n - 1 - k := ⟨_, rfl⟩
      have hnm := HEN.out.1
      rw [HMM.out] at hnm
      have htN : t < 8 * m := by omega
      have hm0 : 0 < m := by omega
      obtain ⟨b, o, rfl, h1⟩ := HS.out.get (k := t / 8) (by omega)
      have hbt := byteAt_lt xs t
      have hxb := HBD.out.getD (t / 8)
      rw [BW_eq] at hxb
      unfold byteAt at hbt
      obtain ⟨x, hx⟩ : ∃ x, x = xs.getD (t / 8) 0 := ⟨_, rfl⟩
      rw [← hx] at h1 hbt hxb
      have hb0 : byteAt xs t = x / 2 ^ (8 * (t % 8)) % 256 := by unfold byteAt; rw [hx]
      have hset2 : (fillN (fun i => byteAt xs (n - 1 - i)) n k).set k (x / 2 ^ (8 * (t % 8)) % 256) = fillN (fun i => byteAt xs (n - 1 - i)) n (k + 1) := by
        have h := fillN_set (fun i => byteAt xs (n - 1 - i)) n k
        rw [← hb0, ht]
        exact h
      have h2 : wr.cell? ⟨b, o + t / 8, none⟩ = some (.int .u64 (x : Int)) := (FW.out.cell (World.block_lt_of_cell? w _ h1) (by simp)).trans h1
      have h3 : wr.cell? ⟨gx, 1, none⟩ = some (.slice (some ⟨b, o, none⟩) m c) := (FW.out.cell (p := ⟨gx, 1, none⟩) hgl (by simp)).trans hc1
      obtain ⟨s, hs⟩ : ∃ s, s = 8 * (t % 8) := ⟨_, rfl⟩
      rw [← hs] at hset2 hbt
      have hs56 : s ≤ 56 := by omega
      obtain ⟨y, hy⟩ : ∃ y, y = x / 2 ^ s % 256 := ⟨_, rfl⟩
      rw [← hy] at hset2 hbt
      have r0 : (n : Int) - 1 - k = (t : Int) := by omega
      obtain ⟨q, hq⟩ : ∃ q, q = t / 8 := ⟨_, rfl⟩
      rw [← hq] at h2
      have r2 : (t : Int) / 8 = (q : Int) := by omega
      obtain ⟨r, hr⟩ : ∃ r, r = t % 8 := ⟨_, rfl⟩
      have r4 : (t : Int) % 8 = (r : Int) := by omega
      have r5 : 8 * (r : Int) = (s : Int) := by omega
      have r6 : IntKind.u8.wrap ((x : Int) / 2 ^ s) = (y : Int) := by
        rw [IntKind.wrap_u8, hy]
        simp
      have hqm : q < m := by omega
      obtain ⟨z0, hz0⟩ : ∃ z0, wr.cell? ⟨g, k, none⟩ = some z0 := ⟨_, HR.out.cell hk2⟩
      have hfz := HR.out.frozen (by omega)
      have HSET := Lib.hid hset2
      clear ht h1 hset2 hx hb0 hs hy hq hr hkN hnm hc1
      go_wp2_with fail
      go_roundw
      case rel => exact ⟨k + 1, by omega, by go_num, Lib.hid (by
        have h := HR.out.store k y
        rw [HSET.out] at h
        exact h), Lib.hid (HF.out.setCell (by simp) _)⟩
      case measure => simp [intOf]; omega

set_option maxRecDepth 100000 in
set_option maxHeartbeats 8000000 in
theorem exLimbs_any (gn : Nat) (z : Int) (w : World) (hn : BigAt w gn z) (hl : (limbs z.natAbs).length ≤ 1000000) :
    Calls Tryd.prog 60 #[.pointer (some ⟨gn, 0, none⟩)] w (OutU w z.natAbs) := by
  have HN := Lib.hid hn
  obtain ⟨a, ha⟩ : ∃ a, a = z.natAbs := ⟨_, rfl⟩
  rw [← ha] at hl ⊢
  have HL := Lib.hid hl
  have HAB := Lib.hid ha
  clear hn hl ha
  go_enter Tryd.func60, Tryd.ntmps60
  go_wp2_with fail
  have F0 : Hid (Fr [] w (w.alloc (.cells #[.bool false, .slice none 0 0] 38))) := Lib.hid ((Fr.refl [] w).alloc _)
  refine (abs_any w.heap.size gn z _ (BigAt_new w).blk (HN.out.keep0 F0.out) (by rw [← HAB.out]; have := HL.out; omega)).mono ?_
  rw [← HAB.out]
  rintro e w1 ⟨rfl, hb, hf⟩
  have HB := Lib.hid hb
  have F1 : Hid (Fr [] w w1) := Lib.hid (F0.out.own1 hf (Nat.le_refl _))
  clear hb hf F0
  go_wp2_with fail
  refine (bytes_any w.heap.size a w1 HB.out HL.out).mono ?_
  rintro e w2 ⟨g, n, hen, hgb, rfl, hr, hf⟩
  have HR := Lib.hid hr
  have HE := Lib.hid hen
  have F2 : Hid (Fr [] w w2) := Lib.hid (F1.out.trans0 hf)
  have hnb : n ≤ 8000000 := by have := hen.1; have := HL.out; omega
  have hg2 := hr.lt.2
  obtain ⟨xs, hxs⟩ : ∃ xs, xs = limbs a := ⟨_, rfl⟩
  have HBD : Hid (Bd xs) := Lib.hid (by rw [hxs]; exact Bd_limbs a)
  rw [← hxs] at HR HE
  have HXS := Lib.hid hxs
  obtain ⟨m, hm⟩ : ∃ m, m = xs.length := ⟨_, rfl⟩
  have HM := Lib.hid hm
  have hmb : m ≤ 1000000 := by rw [hm, hxs]; exact HL.out
  clear hen hr hf hxs hm HB
  go_wp2_with fail
  go_loopw [3, 5] (fun ov ev wr => ∃ k : Nat, k ≤ m ∧ ev = .int .i64 ((n : Int) - 8 * k) ∧ Hid (OwU wr w2.heap.size ov (xs.take k)) ∧ Hid (Fr [] w2 wr)) (fun _ ev _ => (intOf ev).toNat)
  case atStart => exact ⟨0, by omega, by simp, Lib.hid (OwU_nil _ _), Lib.hid (Fr.refl _ _)⟩
  case round =>
    obtain ⟨k, hk, rfl, HO, HF⟩ := hrel
    by_cases hkn : n ≤ 8 * k
    · have hke : k = m := by rw [HM.out]; exact HE.out.done hkn (by rw [← HM.out]; exact hk)
      have HFIN : Hid (OwU wr w2.heap.size u3 (limbs a)) := Lib.hid (by have h := HO.out; rw [hke, HM.out, List.take_length, HXS.out] at h; exact h)
      have HF2 := Lib.hid (F2.out.trans0 HF.out)
      have hsz := F2.out.size
      clear hke HO
      go_wp2
      go_ret
      exact ⟨_, rfl, HFIN.out.base_le hsz, HF2.out⟩
    · have hk2 : k < m := by have := HE.out.1; rw [← HM.out] at this; omega
      obtain ⟨hk8, hzero⟩ := HE.out.at_ HBD.out (k := k) (by rw [← HM.out]; exact hk2)
      have htk := take_succ_getD (xs := xs) (i := k) (by rw [← HM.out]; exact hk2)
      have hLb := HBD.out.getD k
      have hbyte : ∀ j, j < min 8 (n - 8 * k) → wr.cell? ⟨g, n - 8 * k - min 8 (n - 8 * k) + j, none⟩ = some (.int .u8 ((xs.getD k 0 / 2 ^ (8 * (min 8 (n - 8 * k) - 1 - j)) % 256 : Nat) : Int)) := by
        intro j hj
        have h1 := HR.out.cell (k := n - 8 * k - min 8 (n - 8 * k) + j) (by omega)
        unfold bytesOf at h1
        rw [fillN_at _ (by omega), if_pos (by omega), show n - 1 - (n - 8 * k - min 8 (n - 8 * k) + j) = 8 * k + (min 8 (n - 8 * k) - 1 - j) by omega, byteAt_in _ _ _ (by omega)] at h1
        exact (HF.out.cell (p := ⟨g, n - 8 * k - min 8 (n - 8 * k) + j, none⟩) hg2 (by simp)).trans h1
      obtain ⟨L, hL⟩ : ∃ L, L = xs.getD k 0 := ⟨_, rfl⟩
      rw [← hL] at hzero htk hLb hbyte
      obtain ⟨cnt, hcnt⟩ : ∃ cnt, cnt = min 8 (n - 8 * k) := ⟨_, rfl⟩
      rw [← hcnt] at hzero hbyte
      obtain ⟨lo, hlo⟩ : ∃ lo, lo = n - 8 * k - cnt := ⟨_, rfl⟩
      rw [← hlo] at hbyte
      have hc1 : 1 ≤ cnt := by omega
      have hc8 : cnt ≤ 8 := by omega
      obtain ⟨E, hE⟩ : ∃ E, E = lo + cnt := ⟨_, rfl⟩
      have e1 : max ((E : Int) - 8) 0 = (lo : Int) := by omega
      have e2 : (n : Int) - 8 * k = (E : Int) := by omega
      have e3 : decide ((0 : Int) < (E : Int)) = true := by simp; omega
      have e4 : E - lo = cnt := by omega
      have hEb : E ≤ 8000000 := by omega
      have hEn : E ≤ n := by omega
      have hloE : lo ≤ E := by omega
      have HTK := Lib.hid htk
      have HBY := Lib.hid hbyte
      have HZE := Lib.hid hzero
      have HLB := Lib.hid hLb
      have HLK : Hid ((xs.take k).length ≤ 1000000) := Lib.hid (by rw [List.length_take]; omega)
      have H8K : Hid (n - 8 * k = E ∧ E = lo + cnt) := Lib.hid (by omega)
      rw [e2]
      have E2 := Lib.hid e2
      clear hL hcnt hlo hzero htk hLb hbyte e2 hkn hE
      go_wp2_with fail
      go_loop [6, 26] (fun xv jv => ∃ j : Nat, j ≤ cnt ∧ jv = .int .i64 (j : Int) ∧ xv = .int .u64 ((L / 2 ^ (8 * (cnt - j)) : Nat) : Int)) (fun _ jv => cnt - (intOf jv).toNat)
      case atStart => exact ⟨0, by omega, rfl, by rw [Nat.sub_zero, HZE.out]; rfl⟩
      case round =>
        obtain ⟨j, hj, rfl, rfl⟩ := hrel
        by_cases hjc : j = cnt
        · have hLL : L / 2 ^ (8 * (cnt - j)) = L := by rw [hjc, Nat.sub_self]; simp
          rw [hLL]
          have hjc' := hjc.symm
          subst hjc'
          clear hLL hjc
          go_wp2_with (at_builtin; refine wp_appendU rfl _ _ rfl w2.heap.size u3 (xs.take k) rfl (HO.out.keep0 ((Fr.refl [] wr).alloc _)) wr.heap.size 0 1 [L] rfl (by intro j hj; match j, hj with | 0, _ => simp [World.cell?_alloc_new]) (Bd.cons HLB.out Bd.nil) (by have := HLK.out; simp; omega) (by have := HF.out.size; simp; omega) ?_; intro v' w4 ho hfr _ _; have HO2 := Lib.hid ho; have HF2 : Hid (Fr [] w2 w4) := Lib.hid ((HF.out.alloc _).trans_own (HO.out.keep0 ((Fr.refl [] wr).alloc _)) hfr); clear ho hfr)
          go_roundw
          case rel => exact ⟨k + 1, by omega, by have h := E2.out; have h2 := H8K.out; first | (congr 1; omega) | (exact congrArg (Value.int .i64) (by omega)), Lib.hid (by rw [HTK.out]; exact HO2.out), HF2⟩
          case measure => simp [intOf]; omega
        · have hj2 : j < cnt := by omega
          have hcb := HBY.out j hj2
          have hst := bytes_step L (8 * (cnt - 1 - j))
          rw [show 8 * (cnt - 1 - j) + 8 = 8 * (cnt - j) by omega] at hst
          obtain ⟨x, hx⟩ : ∃ x, x = L / 2 ^ (8 * (cnt - j)) := ⟨_, rfl⟩
          obtain ⟨d, hd⟩ : ∃ d, d = L / 2 ^ (8 * (cnt - 1 - j)) % 256 := ⟨_, rfl⟩
          obtain ⟨y, hy⟩ : ∃ y, y = L / 2 ^ (8 * (cnt - 1 - j)) := ⟨_, rfl⟩
          have hyL : y ≤ L := by rw [hy]; exact Nat.div_le_self _ _
          have hd2 : d < 256 := by rw [hd]; exact Nat.mod_lt _ (by omega)
          rw [← hx, ← hd, ← hy] at hst
          rw [← hx]
          rw [← hd] at hcb
          have hyB : y < BW := Nat.lt_of_le_of_lt hyL HLB.out
          have hxB : x * 256 < BW := by omega
          have r2 : bits .or .u64 ((x * 256 : Nat) : Int) (d : Int) = ((x * 256 + d : Nat) : Int) := or_add (s := 8) (hi := x) (by rfl) hxB hd2 (by omega)
          rw [hst] at r2
          rw [BW_eq] at hxB hyB
          obtain ⟨x8, hx8⟩ : ∃ x8, x8 = x * 256 := ⟨_, rfl⟩
          rw [← hx8] at r2 hxB
          have r1 : (x : Int) * 256 = (x8 : Int) := by omega
          have r3 : IntKind.u64.wrap (x8 : Int) = (x8 : Int) := IntWalk.u64_in _ (by omega)
          have r4 : IntKind.u64.wrap (d : Int) = (d : Int) := IntWalk.u64_in _ (by omega)
          have HYN : Hid (y = L / 2 ^ (8 * (cnt - (j + 1)))) := Lib.hid (by rw [hy, show cnt - (j + 1) = cnt - 1 - j by omega])
          clear hst hx hd hy hx8 hyL hjc
          go_wp2_with fail
          go_round
          case rel => exact ⟨j + 1, by omega, by go_num, by rw [← HYN.out]⟩
          case measure => simp [intOf]; omega
end Go.Proofs.YtedoeadhbcjjgaaDoor

/- exact.Told; rows of big numbers; recur.numbers. -/
namespace Go.Proofs.YtedoeadhbcjjgaaDoor
open Go.RowKit

theorem sgn_dec (z : Int) : decide (sgn z < 0) = decide (z < 0) := by
  unfold sgn
  by_cases h0 : z = 0
  · subst h0; rfl
  · rw [if_neg h0]
    by_cases h : z < 0
    · simp [h]
    · simp [h]

set_option maxRecDepth 100000 in
set_option maxHeartbeats 4000000 in
theorem told_any (gn : Nat) (z : Int) (w : World) (hn : BigAt w gn z) (hl : (limbs z.natAbs).length ≤ 4096) :
    Calls Tryd.prog 37 #[.pointer (some ⟨gn, 0, none⟩)] w (TellPost z w) := by
  have HN := Lib.hid hn
  have HL := Lib.hid hl
  have F0 : Hid (Fr [] w (w.alloc (.cells #[.bool false, .slice none 0 0] 44))) := Lib.hid ((Fr.refl [] w).alloc _)
  have HN0 := Lib.hid (hn.keep0 F0.out)
  have HSG := Lib.hid (sgn_dec z)
  obtain ⟨s, hs⟩ : ∃ s, s = decide (z < 0) := ⟨_, rfl⟩
  have HS := Lib.hid hs
  have esg : decide (sgn z < 0) = s := by rw [sgn_dec, hs]
  clear hn hl hs
  go_enter Tryd.func37, Tryd.ntmps37
  go_wp2_with (first
    | (go_at_call 26; refine (sign_any gn z _ HN0.out).mono ?_; rintro e w' ⟨rfl, rfl⟩)
    | (go_at_call 60; refine (exLimbs_any gn z _ HN0.out (by have := HL.out; omega)).mono ?_; rintro e w1 ⟨v', rfl, ho, hf⟩; obtain ⟨A, c, rfl, hc, _⟩ := ho.sl.open_; have HO := Lib.hid ho; have F1 : Hid (Fr [] w w1) := Lib.hid (F0.out.trans0 hf); have c0 := fresh_cell hf 0; have c1 := fresh_cell hf 1; have fz := fresh_free hf; have hlt : w.heap.size < w1.heap.size := (by have := hf.size; simp at this; omega); simp at c0 c1; have HNEW : Hid (w1.heap[w.heap.size]? = some (.cells #[.bool false, .slice none 0 0] 44 (0, 0))) := Lib.hid ((hf.block w.heap.size (by simp) (by simp)).trans (heap_alloc_new w _)); clear ho hf; have hle : decide ((4096 : Int) < ((limbs z.natAbs).length : Int)) = false := (by have := HL.out; simp; omega)))
  have F3 : Fr [w.heap.size] w1 _ := (((Fr.refl [w.heap.size] w1).setCell (p := ⟨w.heap.size, 0, none⟩) (by simp) (.bool s)).setCell (p := ⟨w.heap.size, 1, none⟩) (by simp) (.slice A (limbs z.natAbs).length c)).alloc (.cells #[.bool s, .slice A (limbs z.natAbs).length c] 44)
  exact bodyPost_ret (v := .tuple #[.agg #[.bool s, .slice A (limbs z.natAbs).length c], .bool true]) (by simp [results, Tryd.results37, go_sem, c0, c1, fz, hlt, World.cell?_alloc_past]) rfl ⟨_, rfl, ⟨A, _, c, by rw [HS.out], (HO.out.base_le (by simp)).keep F3 (by intro k hk; have := (HO.out.lt hk).1; simp at this; simp; omega)⟩, F1.out.own1 F3 (Nat.le_refl _)⟩

/-! ### rows of pointers to big numbers -/
def ptrs (gs : List Nat) : List Value := gs.map fun g => Value.pointer (some ⟨g, 0, none⟩)
theorem ptrs_length (gs : List Nat) : (ptrs gs).length = gs.length := by simp [ptrs]
theorem ptrs_append (gs hs : List Nat) : ptrs (gs ++ hs) = ptrs gs ++ ptrs hs := by simp [ptrs]
theorem ptrs_at {gs : List Nat} {j : Nat} (h : j < gs.length) : (ptrs gs)[j]? = some (.pointer (some ⟨gs.getD j 0, 0, none⟩)) := by simp [ptrs, List.getD, h]
theorem infoP : (Tryd.prog.info? 35).map (fun i => (i.zero, i.size, i.bytes)) = some (some (.pointer none), 1, 8) := by kernel_rfl
/-- A row of the call's own of pointers to the blocks gs. -/
def OwP (w : World) (base : Nat) (v : Value) (gs : List Nat) : Prop := w.ownsRow base 35 1 v gs.length (ptrs gs)
theorem OwP_nil (w : World) (base : Nat) : OwP w base (.slice none 0 0) [] := World.ownsRow_nil _ _ _ _
theorem OwP.keep {w w' : World} {base : Nat} {v : Value} {gs S : List Nat} (h : OwP w base v gs) (f : Fr S w w') (hne : ∀ k, v.ownBlock = some k → k ∉ S) : OwP w' base v gs := own_keep h f hne
theorem OwP.keep0 {w w' : World} {base : Nat} {v : Value} {gs : List Nat} (h : OwP w base v gs) (f : Fr [] w w') : OwP w' base v gs := h.keep f (by simp)
theorem OwP.base_le {w : World} {base base' : Nat} {v : Value} {gs : List Nat} (h : OwP w base v gs) (hb : base' ≤ base) : OwP w base' v gs := own_base h hb
theorem OwP.lt {w : World} {base : Nat} {v : Value} {gs : List Nat} (h : OwP w base v gs) {k : Nat} (hk : v.ownBlock = some k) : base ≤ k ∧ k < w.heap.size := World.ownsRow.lt h k hk
/-- The row's block holds no limbs, and is no big number. -/
theorem OwP.type {w : World} {base : Nat} {v : Value} {gs : List Nat} (h : OwP w base v gs) {k : Nat} (hk : v.ownBlock = some k) : ∃ cs, w.heap[k]? = some (.cells cs 35 (0, 0)) := by
  rcases h.2 with ⟨rfl, _⟩ | ⟨g, cap, cur, rfl, hb, hh, _⟩
  · simp [Value.ownBlock] at hk
  · simp only [Value.ownBlock, Option.some.injEq] at hk
    subst hk; exact ⟨_, hh⟩
theorem OwP.notU {w : World} {base : Nat} {v : Value} {gs : List Nat} (h : OwP w base v gs) : NotU w v.ownBlock.toList := by
  intro k hk _ cs fr e
  obtain ⟨cs', h2⟩ := h.type (k := k) (by simpa using hk)
  rw [h2] at e; simp at e
theorem OwP.ne_int {w : World} {base : Nat} {v : Value} {gs : List Nat} (h : OwP w base v gs) {k : Nat} (hk : IntBlk w k) : v.ownBlock ≠ some k := by
  intro e
  obtain ⟨cs', h2⟩ := h.type e
  obtain ⟨_, _, _, _, h3⟩ := hk
  rw [h3] at h2; simp at h2
theorem OwP.keepI {w w' : World} {base : Nat} {v : Value} {gs S : List Nat} (h : OwP w base v gs) (f : Fr S w w') (hS : AreInts w S) : OwP w' base v gs :=
  h.keep f (fun k hk hm => h.ne_int (hS k hm (h.lt hk).2) hk)
theorem OwP.open_ {w : World} {base : Nat} {v : Value} {gs : List Nat} (h : OwP w base v gs) : ∃ A c, v = .slice A gs.length c ∧ gs.length ≤ c ∧ (0 < gs.length → ∃ b, A = some ⟨b, 0, none⟩ ∧ ∀ j, j < gs.length → w.cell? ⟨b, j, none⟩ = some (.pointer (some ⟨gs.getD j 0, 0, none⟩))) := by
  obtain ⟨A, c, rfl, hc, hx⟩ := own_cells h
  refine ⟨A, c, rfl, hc, fun hl => ?_⟩
  rcases h.2 with ⟨e, h0⟩ | ⟨g, cap, cur, e, hb, hh, hnc, hcm, hcs, htake⟩
  · omega
  · simp only [Value.slice.injEq] at e
    obtain ⟨rfl, _, _⟩ := e
    refine ⟨g, rfl, fun j hj => ?_⟩
    obtain ⟨b, o, e2, h3⟩ := hx (by rw [ptrs_length]; exact hl)
    simp only [Option.some.injEq, Addr.mk.injEq, and_true] at e2
    obtain ⟨rfl, rfl⟩ := e2
    have h4 := h3 j (by rw [ptrs_length]; exact hj)
    rw [Nat.zero_add] at h4
    rw [h4, ptrs_at hj]

/-- The blocks gs read as the numbers zs. -/
def BigRow (w : World) (gs : List Nat) (zs : List Int) : Prop := gs.length = zs.length ∧ ∀ i, i < gs.length → BigAt w (gs.getD i 0) (zs.getD i 0)
theorem BigRow.keep0 {w w' : World} {gs : List Nat} {zs : List Int} (h : BigRow w gs zs) (f : Fr [] w w') : BigRow w' gs zs := ⟨h.1, fun i hi => (h.2 i hi).keep0 f⟩
theorem BigRow.keepT {w w' : World} {gs S : List Nat} {zs : List Int} (h : BigRow w gs zs) (f : Fr S w w') (hS : NotU w S) (hd : ∀ g ∈ gs, g ∉ S) : BigRow w' gs zs :=
  ⟨h.1, fun i hi => (h.2 i hi).keepT f hS (hd _ (by rw [show gs.getD i 0 = gs[i] by simp [List.getD, hi]]; exact List.getElem_mem hi))⟩
theorem BigRow.nil (w : World) : BigRow w [] [] := ⟨rfl, fun i hi => by simp at hi⟩
theorem BigRow.snoc {w : World} {gs : List Nat} {zs : List Int} {g : Nat} {z : Int} (h : BigRow w gs zs) (hg : BigAt w g z) : BigRow w (gs ++ [g]) (zs ++ [z]) := by
  refine ⟨by simp [h.1], fun i hi => ?_⟩
  by_cases hlt : i < gs.length
  · rw [show (gs ++ [g]).getD i 0 = gs.getD i 0 by simp only [List.getD]; rw [List.getElem?_append_left hlt], show (zs ++ [z]).getD i 0 = zs.getD i 0 by simp only [List.getD]; rw [List.getElem?_append_left (by rw [← h.1]; exact hlt)]]
    exact h.2 i hlt
  · have hie : i = gs.length := by simp at hi; omega
    rw [show (gs ++ [g]).getD i 0 = g by rw [hie]; simp only [List.getD]; rw [List.getElem?_append_right (by omega), Nat.sub_self]; rfl, show (zs ++ [z]).getD i 0 = z by rw [hie, h.1]; simp only [List.getD]; rw [List.getElem?_append_right (by omega), Nat.sub_self]; rfl]
    exact hg
theorem BigRow.ints {w : World} {gs : List Nat} {zs : List Int} (h : BigRow w gs zs) {g : Nat} (hg : g ∈ gs) : IntBlk w g := by
  obtain ⟨i, hi, rfl⟩ := List.getElem_of_mem hg
  have := (h.2 i hi).blk
  rwa [show gs.getD i 0 = gs[i] by simp [List.getD, hi]] at this
theorem BigRow.lt {w : World} {gs : List Nat} {zs : List Int} (h : BigRow w gs zs) {g : Nat} (hg : g ∈ gs) : g < w.heap.size := (h.ints hg).lt

section
variable {w : World} {ops : Array Oper} {rest : List Oper} {o : Oper} {a : Act} {Q : Exit → Act → World → Prop}
theorem wp_appendP (hg : o.guard = none) (s x : Operand) (hop : o.op = Op.call { callee := Callee.builtin Builtin.append, args := #[s, x], argTypes := #[61, 61] })
    (base : Nat) (v : Value) (gs : List Nat) (hs : a.eval s = v) (hown : OwP w base v gs) (g c : Nat) (p : Nat) (hx : a.eval x = .slice (some ⟨g, 0, none⟩) 1 c)
    (hc : w.cell? ⟨g, 0, none⟩ = some (.pointer (some ⟨p, 0, none⟩))) (hn : gs.length ≤ 10000000) (hb : base ≤ w.heap.size)
    (hK : ∀ v' w', OwP w' base v' (gs ++ [p]) → Fr v.ownBlock.toList w w' → (v'.ownBlock = v.ownBlock ∨ v'.ownBlock = some w.heap.size) → wpList Tryd.prog ops Q rest (a.put o.dst v') w') :
    wpList Tryd.prog ops Q (o :: rest) a w := by
  obtain ⟨i0, hi, hz0, hz1, hz2⟩ := info_parts infoP
  refine wpList_append_own_at w hg s x 61 hop base 35 i0 (.pointer none) 1 8 Tryd.underlying61 hi hz0 hz1 hz2 rfl (by decide) v gs.length (ptrs gs) hs hown ⟨g, 0, none⟩ 1 c (ptrs [p]) hx (by simp [ptrs]) ?_ ?_ (by unfold maxLen; omega) (by omega) hb ?_
  · intro j u hu
    rw [Addr.add_lit, Nat.zero_add]
    match j, hu with
    | 0, hu => rw [hc]; simpa [ptrs] using hu
    | j + 1, hu => simp [ptrs] at hu
  · intro u hu
    simp [ptrs] at hu
    subst hu; rfl
  · intro v' w1 hown' hgrow _ hat
    rw [← ptrs_append] at hown'
    exact hK v' w1 (by unfold OwP; simpa using hown') (Fr.of_grown hgrow) hat
end

def NumsPost (zs : List Int) (w : World) (e : Ending) (w' : World) : Prop := ∃ v gs, e = .returned v ∧ OwP w' w.heap.size v gs ∧ BigRow w' gs zs ∧ gs.Nodup ∧ (∀ g ∈ gs, w.heap.size ≤ g) ∧ Fr [] w w'

set_option maxRecDepth 100000 in
set_option maxHeartbeats 4000000 in
theorem numbers_any (v : Value) (zs : List Int) (w : World) (hv : SlZ w v zs) (hl : AllRight zs) (hb : zs.length ≤ 100000) :
    Calls Tryd.prog 34 #[v] w (NumsPost zs w) := by
  obtain ⟨A, c, rfl, hc, hx⟩ := hv
  obtain ⟨m, hm⟩ : ∃ m, m = zs.length := ⟨_, rfl⟩
  rw [← hm] at hc hx hb ⊢
  have HX := Lib.hid hx
  have HM := Lib.hid hm
  have HL : Hid (∀ i, i < m → (limbs (zs.getD i 0).natAbs).length ≤ 4096) := Lib.hid (by rw [hm]; exact hl)
  clear hx hl hm
  go_enter Tryd.func34, Tryd.ntmps34
  go_wp2_with fail
  go_loopw [3, 8] (fun ov iv wr => ∃ k gs, k ≤ m ∧ iv = .int .i64 (k : Int) ∧ Hid (OwP wr w.heap.size ov gs) ∧ Hid (BigRow wr gs (zs.take k)) ∧ Hid (gs.Nodup ∧ (∀ g ∈ gs, w.heap.size ≤ g)) ∧ Hid (Fr [] w wr)) (fun _ iv _ => m - (intOf iv).toNat)
  case atStart => exact ⟨0, [], by omega, rfl, Lib.hid (OwP_nil _ _), Lib.hid (BigRow.nil _), Lib.hid (by simp), Lib.hid (Fr.refl _ _)⟩
  case round =>
    obtain ⟨k, gs, hk, rfl, HO, HB, HG, HF⟩ := hrel
    by_cases hkm : k = m
    · have hkm' := hkm.symm
      subst hkm'
      have HB2 : Hid (BigRow wr gs zs) := Lib.hid (by have h := HB.out; rw [HM.out, List.take_length] at h; exact h)
      clear HB hkm
      go_wp2
      go_ret
      exact ⟨_, gs, rfl, HO.out, HB2.out, HG.out.1, HG.out.2, HF.out⟩
    · have hk2 : k < m := by omega
      obtain ⟨b, o, rfl, hce⟩ := HX.out (by omega)
      obtain ⟨A', n, c', h1, h2, h3⟩ := hce k hk2
      have hr := HL.out k hk2
      have htk : zs.take (k + 1) = zs.take k ++ [zs.getD k 0] := by
        rw [List.take_succ_eq_append_getElem (by rw [← HM.out]; exact hk2)]
        simp [List.getD, show k < zs.length by rw [← HM.out]; exact hk2]
      obtain ⟨z, hz⟩ : ∃ z, z = zs.getD k 0 := ⟨_, rfl⟩
      rw [← hz] at h1 h3 hr htk
      have HV : Hid (IntV wr (.agg #[.bool (decide (z < 0)), .slice A' n c']) z) := Lib.hid ⟨A', n, c', rfl, h3.keep0 HF.out⟩
      obtain ⟨s, hsd⟩ : ∃ s, s = decide (z < 0) := ⟨_, rfl⟩
      rw [← hsd] at h1 HV
      have g1 : wr.cell? ⟨b, o + k * 2, none⟩ = some (.bool s) := (HF.out.cell (World.block_lt_of_cell? w _ h1) (by simp)).trans h1
      have g2 : wr.cell? ⟨b, o + k * 2 + 1, none⟩ = some (.slice A' n c') := (HF.out.cell (World.block_lt_of_cell? w _ h2) (by simp)).trans h2
      have HTK := Lib.hid htk
      have HRR := Lib.hid hr
      have HLG : Hid (gs.length ≤ 100000) := Lib.hid (by rw [HB.out.1, List.length_take]; omega)
      have FA : Hid (Fr [] wr (wr.alloc (.cells #[.bool s, .slice A' n c'] 44))) := Lib.hid ((Fr.refl [] wr).alloc _)
      have HC := Lib.hid (exInt_any _ z _ (HV.out.keep0 FA.out) (by omega))
      clear hce h1 h2 h3 hr hz hsd hkm htk
      go_wp2_with fail
      refine HC.out.mono ?_
      rintro e w1 ⟨g, rfl, hg, hbz, hf⟩
      have HBZ := Lib.hid hbz
      have f1 := FA.out.trans0 hf
      have F1 := Lib.hid f1
      have HO1 := Lib.hid (HO.out.keep0 f1)
      have HB1 := Lib.hid (HB.out.keep0 f1)
      have HF1 := Lib.hid (HF.out.trans0 f1)
      have hge : wr.heap.size ≤ g := by simp at hg; omega
      have hgl := hbz.lt
      have hszr := HF.out.size
      have hsz1 := f1.size
      clear hbz hf f1 hg
      go_wp2_with (at_builtin; refine wp_appendP rfl _ _ rfl w.heap.size u3 gs rfl (HO1.out.keep0 ((Fr.refl [] w1).alloc _)) w1.heap.size 1 g rfl (by simp [World.cell?_alloc_new]) (by have := HLG.out; omega) (by simp; omega) ?_; intro v' w2 ho hfr _; have HO2 := Lib.hid ho; have HFR := Lib.hid hfr; have HF2 : Hid (Fr [] w w2) := Lib.hid ((HF1.out.alloc _).trans hfr (by intro x hx hlt; have := (HO1.out.lt (k := x) (by simpa using hx)).1; omega)); clear ho hfr)
      have HNU : Hid (NotU (w1.alloc (.cells #[.pointer (some ⟨g, 0, none⟩)] 35)) u3.ownBlock.toList) := Lib.hid (HO1.out.keep0 ((Fr.refl [] w1).alloc _)).notU
      have HBB : Hid (BigRow w2 (gs ++ [g]) (zs.take (k + 1))) := Lib.hid (by
        rw [HTK.out]
        have hb1 := (HB1.out.snoc HBZ.out).keep0 ((Fr.refl [] w1).alloc (.cells #[.pointer (some ⟨g, 0, none⟩)] 35))
        exact hb1.keepT HFR.out HNU.out (fun x hx hm => (HO1.out.keep0 ((Fr.refl [] w1).alloc _)).ne_int (hb1.ints hx) (by simpa using hm)))
      have HGG : Hid ((gs ++ [g]).Nodup ∧ ∀ x ∈ gs ++ [g], w.heap.size ≤ x) := Lib.hid (by
        refine ⟨?_, ?_⟩
        · rw [List.nodup_append]
          refine ⟨HG.out.1, by simp, ?_⟩
          intro x hx y hy
          simp at hy; subst hy
          have := HB.out.lt hx
          omega
        · intro x hx
          rcases List.mem_append.1 hx with h | h
          · exact HG.out.2 x h
          · simp at h; omega)
      go_roundw
      case rel => exact ⟨k + 1, gs ++ [g], by omega, by go_num, HO2, HBB, HGG, HF2⟩
      case measure => simp [intOf]; omega
end Go.Proofs.YtedoeadhbcjjgaaDoor
