/- Joined by program (merge.py) out of 8 texts, a part of the proof: contracts of the functions that the statement reaches, and plain mathematics. No statement of the seat stands here. -/
import Derived.Test.YtedoeadhbcjjgaaDoorG12
/- big.Int: ProbablyPrime (of numbers from 2 to 2^32). -/
namespace Go.Proofs.YtedoeadhbcjjgaaDoor
open Go.RowKit

def ppL : List Nat := [2, 3, 5, 7, 11, 13, 17, 19, 23, 29, 31, 37]
def ppGo (n : Nat) : List Nat → Bool
  | [] => true
  | q :: l => if n = q then true else if n % q = 0 then false else if passN n q then ppGo n l else false
def ppN (n : Nat) : Bool := ppGo n ppL

theorem ppL_lt (k : Nat) : ppL.getD k 0 ≤ 37 := by
  rcases Nat.lt_or_ge k 12 with h | h
  · have : ∀ j < 12, ppL.getD j 0 ≤ 37 := by decide
    exact this k h
  · rw [show ppL.getD k 0 = 0 by simp [List.getD, List.getElem?_eq_none (l := ppL) (i := k) h]]; omega
theorem ppL_pos {k : Nat} (h : k < 12) : 2 ≤ ppL.getD k 0 ∧ (k = 0 → ppL.getD k 0 = 2) := by
  have : ∀ j < 12, 2 ≤ ppL.getD j 0 ∧ (j = 0 → ppL.getD j 0 = 2) := by decide
  exact this k h
theorem ppL_drop {k : Nat} (h : k < 12) : ppL.drop k = ppL.getD k 0 :: ppL.drop (k + 1) := by
  rw [List.drop_eq_getElem_cons (by exact h)]
  congr 1
  simp [List.getD, show k < ppL.length from h]
  rfl

set_option maxRecDepth 100000 in
set_option maxHeartbeats 8000000 in
theorem probablyPrime_any (gn : Nat) (n : Nat) (w : World) (hn : BigAt w gn (n : Int)) (hn2 : 2 ≤ n) (hnb : n < 4294967296) (hT : HasTab w) :
    Calls Tryd.prog 23 #[.pointer (some ⟨gn, 0, none⟩), .int .i64 0] w fun e w' => e = .returned (.bool (ppN n)) ∧ Fr [] w w' := by
  have HN := Lib.hid hn
  have HT := Lib.hid hT
  have hB : (4294967296 : Nat) ≤ BW := by rw [BW_eq]; omega
  have HNB : Hid (n < BW ∧ 37 < BW) := Lib.hid ⟨by omega, by omega⟩
  have HL1 : Hid ((limbs n).length ≤ 1) := Lib.hid (len1 (by omega))
  have hnlt := hn.lt
  obtain ⟨_, _, _, hc0, _, _, _, _⟩ := hn.cells
  have hd : decide ((n : Int) < 0) = false := by simp
  rw [hd] at hc0
  clear hn hT hd hB
  go_enter Tryd.func23, Tryd.ntmps23
  go_wp2_with fail
  refine (newInt_any 2 _ (by unfold Ri; omega)).mono ?_
  rintro e w1 ⟨g1, rfl, hg1, hb, hf⟩
  have HO1 := Lib.hid hb
  have F1 := Lib.hid hf
  clear hb hf
  go_wp2_with fail
  have hcm : 0 ≤ cmpZ (n : Int) 2 := by unfold cmpZ; rw [if_neg (by omega)]; split <;> omega
  refine (cmp_any gn g1 n 2 _ (HN.out.keep0 F1.out) HO1.out (by rw [Int.natAbs_natCast]; have := HL1.out; omega) (by rw [show (2 : Int).natAbs = 2 from rfl]; have := len1 (n := 2) (by have := HNB.out; omega); omega)).mono ?_
  obtain ⟨cm, hcmd⟩ : ∃ cm, cm = cmpZ (n : Int) 2 := ⟨_, rfl⟩
  rw [← hcmd] at hcm
  rintro e w' ⟨he, nd, rfl⟩
  rw [← hcmd] at he
  subst he
  obtain ⟨w2, hw2⟩ : ∃ w2, w2 = w1.drewN nd := ⟨_, rfl⟩
  rw [← hw2]
  have F2 : Hid (Fr [] w w2) := Lib.hid (by rw [hw2]; exact F1.out.drewN nd)
  clear hw2 hcmd hc0 HO1 F1
  go_wp2_with fail
  obtain ⟨ws, hws⟩ : ∃ ws, ws = w2.alloc (.cells #[.int .i64 2, .int .i64 3, .int .i64 5, .int .i64 7, .int .i64 11, .int .i64 13, .int .i64 17, .int .i64 19, .int .i64 23, .int .i64 29, .int .i64 31, .int .i64 37] 2) := ⟨_, rfl⟩
  have HCELL : Hid (∀ k, k < 12 → ws.cell? ⟨w2.heap.size, k, none⟩ = some (.int .i64 (ppL.getD k 0 : Nat))) := Lib.hid (by
    intro k hk
    rw [hws]
    match k, hk with
    | 0, _ | 1, _ | 2, _ | 3, _ | 4, _ | 5, _ | 6, _ | 7, _ | 8, _ | 9, _ | 10, _ | 11, _ => simp [World.cell?_alloc_new, ppL])
  have FS : Hid (Fr [] w ws) := Lib.hid (by rw [hws]; exact F2.out.alloc _)
  have hsb : w2.heap.size < ws.heap.size := by rw [hws]; simp
  rw [← hws]
  clear hws hcm F2
  go_loopw [20] (fun iv wr => ∃ k : Nat, k ≤ 12 ∧ iv = .int .i64 (k : Int) ∧ Hid (Fr [] ws wr) ∧ Hid (ppGo n (ppL.drop k) = ppN n) ∧ Hid (k = 0 ∨ 2 < n)) (fun iv _ => 12 - (intOf iv).toNat)
  case atStart => exact ⟨0, by omega, rfl, Lib.hid (Fr.refl _ _), Lib.hid rfl, Lib.hid (Or.inl rfl)⟩
  case round =>
    obtain ⟨k, hk, rfl, HFR, HP, HK⟩ := hrel
    have FW : Hid (Fr [] w wr) := Lib.hid (FS.out.trans0 HFR.out)
    by_cases hk12 : k = 12
    · subst hk12
      have hfin : ppN n = true := by rw [← HP.out]; rfl
      have HFIN := Lib.hid hfin
      clear hfin HP
      go_wp2
      go_ret
      exact ⟨by rw [HFIN.out]; rfl, FW.out⟩
    · have hk2 : k < 12 := by omega
      obtain ⟨q, hq⟩ : ∃ q, q = ppL.getD k 0 := ⟨_, rfl⟩
      have hcell := (HFR.out.cell (p := ⟨w2.heap.size, k, none⟩) hsb (by simp)).trans (HCELL.out k hk2)
      have hq37 : q ≤ 37 := by rw [hq]; exact ppL_lt k
      have hq2 : 2 ≤ q := by rw [hq]; exact (ppL_pos hk2).1
      have hq0 : k = 0 → q = 2 := by rw [hq]; exact (ppL_pos hk2).2
      have hP := HP.out
      rw [ppL_drop hk2, ← hq] at hP
      rw [← hq] at hcell
      have HQB : Hid (q < BW ∧ (limbs q).length ≤ 1) := Lib.hid (by have := HNB.out.2; exact ⟨by omega, len1 (by omega)⟩)
      have HNr := Lib.hid (HN.out.keep0 FW.out)
      clear hq HP hk12
      go_wp2_with fail
      refine (newInt_any q _ (by unfold Ri; omega)).mono ?_
      rintro e w3 ⟨gq, rfl, hgq, hb, hf⟩
      have HQ3 := Lib.hid hb
      have F3 : Hid (Fr [] wr w3) := Lib.hid hf
      have HN3 := Lib.hid (HNr.out.keep0 hf)
      clear hb hf hcell
      by_cases hnq : n = q
      · have hfin : ppN n = true := by rw [← hP]; unfold ppGo; rw [if_pos hnq]
        have HFIN := Lib.hid hfin
        have HC := Lib.hid (cmp_is gn gq n q true w3 HN3.out HQ3.out HNB.out.1 HQB.out.1 (by simp [hnq]))
        clear hfin hnq hP
        go_wp2_with (go_at_call 30; refine HC.out.mono ?_; rintro e w' ⟨c, nd, rfl, hc, rfl⟩)
        go_ret
        exact ⟨by rw [HFIN.out]; rfl, (FW.out.trans0 F3.out).drewN nd⟩
      · have HC := Lib.hid (cmp_is gn gq n q false w3 HN3.out HQ3.out HNB.out.1 HQB.out.1 (by simp [hnq]))
        have hn3 : 2 < n := by rcases HK.out with h | h; have := hq0 h; omega; exact h
        go_wp2_with fail
        refine HC.out.mono ?_
        rintro e w' ⟨c, nd, rfl, hc, rfl⟩
        obtain ⟨w4, hw4⟩ : ∃ w4, w4 = w3.drewN nd := ⟨_, rfl⟩
        rw [← hw4]
        have F4 : Hid (Fr [] wr w4) := Lib.hid (by rw [hw4]; exact F3.out.drewN nd)
        have F34 : Hid (Fr [] w3 w4) := Lib.hid (by rw [hw4]; exact (Fr.refl [] w3).drewN nd)
        clear hw4
        go_wp2_with fail
        have FA : Hid (Fr [] w4 (w4.alloc (.cells #[.bool false, .slice none 0 0] 38))) := Lib.hid ((Fr.refl [] w4).alloc _)
        refine (rem_any w4.heap.size gn gq n q _ (BigAt_new w4).blk (HN3.out.keep0 (F34.out.trans0 FA.out)) (HQ3.out.keep0 (F34.out.trans0 FA.out)) (by rw [Int.natAbs_natCast]; have := HL1.out; omega) (by rw [Int.natAbs_natCast]; have := HQB.out.2; omega) (by omega)).mono ?_
        rw [show ((n : Int).tmod (q : Int)) = ((n % q : Nat) : Int) from rfl]
        rintro e w5 ⟨rfl, hb, hf⟩
        have HR5 := Lib.hid hb
        have F5 : Hid (Fr [] w4 w5) := Lib.hid (FA.out.own1 hf (Nat.le_refl _))
        have FW5 : Hid (Fr [] w w5) := Lib.hid ((FW.out.trans0 F4.out).trans0 F5.out)
        clear hb hf FA
        have HSG := sign_any w4.heap.size ((n % q : Nat) : Int) w5 HR5.out
        by_cases hr0 : n % q = 0
        · have hfin : ppN n = false := by rw [← hP]; unfold ppGo; rw [if_neg hnq, if_pos hr0]
          have HFIN := Lib.hid hfin
          rw [hr0, show sgn ((0 : Nat) : Int) = 0 from rfl] at HSG
          have HSGH := Lib.hid HSG
          clear hfin hnq hP HSG hr0
          go_wp2_with (go_at_call 26; refine HSGH.out.mono ?_; rintro e w' ⟨rfl, rfl⟩)
          go_ret
          exact ⟨by rw [HFIN.out]; rfl, FW5.out⟩
        · have hs1 : sgn ((n % q : Nat) : Int) = 1 := by unfold sgn; rw [if_neg (by omega), if_neg (by omega)]
          rw [hs1] at HSG
          have HSGH := Lib.hid HSG
          have HPS := passes_any gn gq n q w5 (HN.out.keep0 FW5.out) (HQ3.out.keep0 (F34.out.trans0 F5.out)) hn3 hnb HQB.out.1 (HT.out.keep0 FW5.out)
          clear HSG
          cases hps : passN n q with
          | true =>
            have HNX : Hid (ppGo n (ppL.drop (k + 1)) = ppN n) := Lib.hid (by rw [← hP]; conv => rhs; unfold ppGo
                                                                              rw [if_neg hnq, if_neg hr0, if_pos hps])
            rw [hps] at HPS
            have HPSH := Lib.hid HPS
            clear HPS hps hnq hP hr0 hs1
            go_wp2_with (go_at_call 26; refine HSGH.out.mono ?_; rintro e w' ⟨rfl, rfl⟩)
            refine HPSH.out.mono ?_
            rintro e w6 ⟨rfl, hf⟩
            have F6 : Hid (Fr [] ws w6) := Lib.hid (((HFR.out.trans0 F4.out).trans0 F5.out).trans0 hf)
            clear hf
            go_wp2_with fail
            go_roundw
            case rel => exact ⟨k + 1, by omega, by go_num, F6, HNX, Lib.hid (Or.inr hn3)⟩
            case measure => simp [intOf]; omega
          | false =>
            have hfin : ppN n = false := by rw [← hP]; unfold ppGo; rw [if_neg hnq, if_neg hr0, if_neg (by simp [hps])]
            have HFIN := Lib.hid hfin
            rw [hps] at HPS
            have HPSH := Lib.hid HPS
            clear HPS hps hnq hP hr0 hs1 hfin
            go_wp2_with (go_at_call 26; refine HSGH.out.mono ?_; rintro e w' ⟨rfl, rfl⟩)
            refine HPSH.out.mono ?_
            rintro e w6 ⟨rfl, hf⟩
            have F6 : Hid (Fr [] w w6) := Lib.hid (FW5.out.trans0 hf)
            clear hf
            go_wp2
            go_ret
            exact ⟨by rw [HFIN.out]; rfl, F6.out⟩
end Go.Proofs.YtedoeadhbcjjgaaDoor

/- recur.prime, of the nine primes. -/
namespace Go.Proofs.YtedoeadhbcjjgaaDoor
open Go.RowKit

theorem bitsOf_small {y : Nat} (h0 : y ≠ 0) (hb : y < BW) : bitsOf y = bitLen y := by
  unfold bitsOf
  obtain ⟨h1, _, _, h4⟩ := bitLen_bounds h0 hb
  rw [limbs_small h0 hb]
  simp only [List.length_singleton, Nat.sub_self]
  rw [show [y].getD 0 0 = y from rfl]
  omega
def passC (n a : Nat) : Bool := passGo n (Lib.ctz 64 (n - 1)) (expGo (a % n) n ((n - 1) / 2 ^ Lib.ctz 64 (n - 1)) (bitLen ((n - 1) / 2 ^ Lib.ctz 64 (n - 1))) (1 % n))
theorem passC_eq {n : Nat} (a : Nat) (hd : (n - 1) / 2 ^ Lib.ctz 64 (n - 1) ≠ 0) (hb : n < BW) : passN n a = passC n a := by
  unfold passN passC expN
  rw [bitsOf_small hd (Nat.lt_of_le_of_lt (Nat.div_le_self _ _) (by omega))]
def ppGoC (n : Nat) : List Nat → Bool
  | [] => true
  | q :: l => if n = q then true else if n % q = 0 then false else if passC n q then ppGoC n l else false
theorem ppGoC_eq {n : Nat} (hd : (n - 1) / 2 ^ Lib.ctz 64 (n - 1) ≠ 0) (hb : n < BW) : ∀ l, ppGo n l = ppGoC n l
  | [] => rfl
  | q :: l => by unfold ppGo ppGoC; rw [passC_eq q hd hb, ppGoC_eq hd hb l]

/-- The nine primes of the statements. -/
def thePrimes : List Nat := [2, 3, 5, 7, 11, 101, 65537, 1000003, 2147483647]
theorem thePrimes_pp : ∀ p ∈ thePrimes, ppN p = true ∧ 2 ≤ p ∧ p < 2147483648 := by
  intro p hp
  have h : ∀ p ∈ thePrimes, decide ((p - 1) / 2 ^ Lib.ctz 64 (p - 1) ≠ 0) = true ∧ ppGoC p ppL = true ∧ decide (2 ≤ p ∧ p < 2147483648) = true := by
    decide +kernel
  obtain ⟨h1, h2, h3⟩ := h p hp
  have h3 := of_decide_eq_true h3
  refine ⟨?_, h3.1, h3.2⟩
  unfold ppN
  rw [ppGoC_eq (of_decide_eq_true h1) (by rw [BW_eq]; omega)]
  exact h2

set_option maxRecDepth 100000 in
set_option maxHeartbeats 4000000 in
theorem prime_any (p : Nat) (w : World) (hp : p ∈ thePrimes) (hT : HasTab w) : Calls Tryd.prog 11 #[.int .i64 (p : Int)] w fun e w' => e = .returned (.bool true) ∧ Fr [] w w' := by
  obtain ⟨h1, h2, h3⟩ := thePrimes_pp p hp
  have HT := Lib.hid hT
  have H1 := Lib.hid h1
  have e1 : decide (1 < (p : Int)) = true := by simp; omega
  have e2 : decide ((p : Int) < 2147483648) = true := by simp; omega
  clear hp hT h1
  go_enter Tryd.func11, Tryd.ntmps11
  go_wp2_with fail
  refine (newInt_any p _ (by unfold Ri; omega)).mono ?_
  rintro e w1 ⟨g1, rfl, hg1, hb, hf⟩
  have HB := Lib.hid hb
  have F1 := Lib.hid hf
  clear hb hf
  go_wp2_with fail
  refine (probablyPrime_any g1 p w1 HB.out h2 (by omega) (HT.out.keep0 F1.out)).mono ?_
  rw [H1.out]
  rintro e w2 ⟨rfl, hf⟩
  have F2 := Lib.hid (F1.out.trans0 hf)
  clear hf
  go_wp2
  go_ret
  exact ⟨rfl, F2.out⟩
end Go.Proofs.YtedoeadhbcjjgaaDoor

/- big.Int: ModInverse. -/
namespace Go.Proofs.YtedoeadhbcjjgaaDoor
open Go.RowKit

theorem SlU_unique {w : World} {v : Value} {xs ys : List Nat} (h : SlU w v xs) (k : SlU w v ys) : xs = ys := by
  obtain ⟨A, c, rfl, _⟩ := h.open_
  have hl : ys.length = xs.length := k.len
  refine List.ext_getElem hl.symm ?_
  intro i h1 h2
  obtain ⟨b, o, rfl, e1⟩ := h.get (k := i) h1
  obtain ⟨b', o', e, e2⟩ := k.get (k := i) (by omega)
  simp only [Option.some.injEq, Addr.mk.injEq, and_true] at e
  obtain ⟨rfl, rfl⟩ := e
  rw [e1] at e2
  simp only [Option.some.injEq, Value.int.injEq, true_and] at e2
  rw [getD_eq h1, getD_eq h2] at e2
  omega
theorem BigAt_unique {w : World} {b : Nat} {x y : Nat} (h : BigAt w b (x : Int)) (k : BigAt w b (y : Int)) : x = y := by
  obtain ⟨A, n, c, h1, h2⟩ := h
  obtain ⟨A', n', c', k1, k2⟩ := k
  rw [h1] at k1
  simp at k1
  obtain ⟨_, rfl, rfl, rfl⟩ := k1
  have := SlU_unique h2 k2
  simpa using limbs_inj this
open Classical in
noncomputable def bigVal (w : World) (v : Value) : Nat := if h : ∃ n : Nat, ∃ b, v = .pointer (some ⟨b, 0, none⟩) ∧ BigAt w b (n : Int) then Classical.choose h else 0
theorem bigVal_eq {w : World} {b n : Nat} (h : BigAt w b (n : Int)) : bigVal w (.pointer (some ⟨b, 0, none⟩)) = n := by
  have h0 : ∃ n : Nat, ∃ b', Value.pointer (some ⟨b, 0, none⟩) = .pointer (some ⟨b', 0, none⟩) ∧ BigAt w b' (n : Int) := ⟨n, b, rfl, h⟩
  unfold bigVal
  rw [dif_pos h0]
  obtain ⟨b', e, h2⟩ := Classical.choose_spec h0
  simp at e
  subst e
  exact BigAt_unique h2 h

/-! ### Euclid's way -/
theorem inv_size {a b n : Nat} {s t : Int} (hb : 0 < b) (h : s.natAbs * b + t.natAbs * a ≤ n) : t.natAbs * (a % b) + (s - (a / b : Nat) * t).natAbs * b ≤ n := by
  have h1 : (s - ((a / b : Nat) : Int) * t).natAbs ≤ s.natAbs + (a / b) * t.natAbs := by
    have h2 := Int.natAbs_sub_le s (((a / b : Nat) : Int) * t)
    rwa [Int.natAbs_mul, Int.natAbs_natCast] at h2
  have h3 := Nat.mul_le_mul_right b h1
  have h4 := Nat.mod_add_div a b
  have h5 : t.natAbs * a = t.natAbs * (a % b) + a / b * t.natAbs * b := by
    conv => lhs; rw [← h4, Nat.mul_add]
    congr 1
    ac_rfl
  rw [Nat.add_mul] at h3
  omega
theorem inv_step {a b g n : Nat} {s t : Int} (h1 : ∃ u : Int, s * g = a + n * u) (h2 : ∃ u : Int, t * g = b + n * u) : ∃ u : Int, (s - (a / b : Nat) * t) * g = (a % b : Nat) + n * u := by
  obtain ⟨u, hu⟩ := h1
  obtain ⟨v, hv⟩ := h2
  refine ⟨u - (a / b : Nat) * v, ?_⟩
  have h4 : ((a % b : Nat) : Int) = a - b * (a / b : Nat) := by have := Nat.mod_add_div a b; omega
  rw [Int.sub_mul, Int.mul_assoc, hu, hv, h4, Int.mul_sub, Int.mul_add]
  have e1 : ((a / b : Nat) : Int) * (n * v) = n * ((a / b : Nat) * v) := by ac_rfl
  have e2 : ((a / b : Nat) : Int) * b = b * (a / b : Nat) := by ac_rfl
  omega

def InvPost (gz g n : Nat) (w : World) (e : Ending) (w' : World) : Prop := ∃ v : Nat, v < n ∧ g * v % n = 1 ∧ BigPost gz (v : Int) w e w'

set_option maxRecDepth 100000 in
set_option maxHeartbeats 8000000 in
theorem modInverse_any (gz gg gn : Nat) (g n : Nat) (w : World) (hz : IntBlk w gz) (hg : BigAt w gg (g : Int)) (hn : BigAt w gn (n : Int)) (hn1 : 1 < n) (hnb : n < 4294967296) (hgn : g < n) (hcop : Nat.Coprime g n) :
    Calls Tryd.prog 14 #[.pointer (some ⟨gz, 0, none⟩), .pointer (some ⟨gg, 0, none⟩), .pointer (some ⟨gn, 0, none⟩)] w (InvPost gz g n w) := by
  have HZ := Lib.hid hz
  have HGG := Lib.hid hg
  have HN := Lib.hid hn
  have hB : (4294967296 : Nat) ≤ BW := by rw [BW_eq]; omega
  have HL : Hid (∀ x, x ≤ n → (limbs x).length ≤ 1) := Lib.hid (fun x hx => len1 (by omega))
  have HCOP := Lib.hid hcop
  have HGN := Lib.hid hgn
  have hglt := hg.lt
  have hnlt := hn.lt
  have hzlt := hz.lt
  clear hz hg hn hB hcop hgn
  go_enter Tryd.func14, Tryd.ntmps14
  go_wp2_with fail
  have FA : Hid (Fr [] w (w.alloc (.cells #[.bool false, .slice none 0 0] 38))) := Lib.hid ((Fr.refl [] w).alloc _)
  refine (mod_any w.heap.size gg gn g n _ (BigAt_new w).blk (HGG.out.keep0 FA.out) (HN.out.keep0 FA.out) (by rw [Int.natAbs_natCast]; have := HL.out g (by have := HGN.out; omega); omega) (by rw [Int.natAbs_natCast]; have := HL.out n (by omega); omega) (by omega)).mono ?_
  rw [show ((g : Int) % (n : Int)) = (g : Int) by rw [← Int.natCast_emod, Nat.mod_eq_of_lt HGN.out]]
  rintro e w1 ⟨rfl, hb, hf⟩
  have HA1 := Lib.hid hb
  have F1 : Hid (Fr [] w w1) := Lib.hid (FA.out.own1 hf (Nat.le_refl _))
  have hsz1 : w.heap.size < w1.heap.size := hb.lt
  clear hb hf FA
  go_wp2_with fail
  have FB : Hid (Fr [] w1 (w1.alloc (.cells #[.bool false, .slice none 0 0] 38))) := Lib.hid ((Fr.refl [] w1).alloc _)
  refine (set_any w1.heap.size gn n _ (BigAt_new w1).blk (HN.out.keep0 (F1.out.trans0 FB.out)) (by rw [Int.natAbs_natCast]; have := HL.out n (by omega); omega)).mono ?_
  rintro e w2 ⟨rfl, hb, hf⟩
  have HB2 := Lib.hid hb
  have F12 : Hid (Fr [] w1 w2) := Lib.hid (FB.out.own1 hf (Nat.le_refl _))
  have HA2 := Lib.hid (HA1.out.keep0 F12.out)
  have F2 : Hid (Fr [] w w2) := Lib.hid (F1.out.trans0 F12.out)
  clear hb hf FB HA1
  go_wp2_with fail
  refine (newInt_any 1 _ (by unfold Ri; omega)).mono ?_
  rintro e w3 ⟨g1, rfl, hg1, hb, hf⟩
  have HS3 := Lib.hid hb
  have F23 : Hid (Fr [] w2 w3) := Lib.hid hf
  clear hb hf
  go_wp2_with fail
  obtain ⟨w4, hw4⟩ : ∃ w4, w4 = w3.alloc (.cells #[.bool false, .slice none 0 0] 38) := ⟨_, rfl⟩
  have F34 : Hid (Fr [] w3 w4) := Lib.hid (by rw [hw4]; exact (Fr.refl [] w3).alloc _)
  have HT4 : Hid (BigAt w4 w3.heap.size 0) := Lib.hid (by rw [hw4]; exact BigAt_new w3)
  have HS4 := Lib.hid (HS3.out.keep0 F34.out)
  have HA4 := Lib.hid (HA2.out.keep0 (F23.out.trans0 F34.out))
  have HB4 := Lib.hid (HB2.out.keep0 (F23.out.trans0 F34.out))
  have F4 : Hid (Fr [] w w4) := Lib.hid (F2.out.trans0 (F23.out.trans0 F34.out))
  rw [← hw4]
  clear hw4 HS3 HA2 HB2 F23 F34 F2 F12
  go_loopw [7, 8, 9, 10] (fun av bv sv tv wr => ∃ (ga gb gs gt a b : Nat) (s t : Int), av = .pointer (some ⟨ga, 0, none⟩) ∧ bv = .pointer (some ⟨gb, 0, none⟩) ∧ sv = .pointer (some ⟨gs, 0, none⟩) ∧ tv = .pointer (some ⟨gt, 0, none⟩) ∧
      Hid (BigAt wr ga (a : Int)) ∧ Hid (BigAt wr gb (b : Int)) ∧ Hid (BigAt wr gs s) ∧ Hid (BigAt wr gt t) ∧ Hid (Fr [] w wr) ∧ 0 < a ∧ a ≤ n ∧ b ≤ n ∧ Hid (∃ u : Int, s * g = a + n * u) ∧ Hid (∃ u : Int, t * g = b + n * u) ∧ Hid (s.natAbs * b + t.natAbs * a ≤ n) ∧ Hid (Nat.Coprime a b) ∧ Hid (s.natAbs ≤ n ∧ t.natAbs ≤ n)) (fun _ bv _ _ wr => bigVal wr bv)
  case atStart =>
    exact ⟨_, _, _, _, g, n, 1, 0, rfl, rfl, rfl, rfl, HA4, HB4, HS4, HT4, F4, by
      have h := HCOP.out
      rcases Nat.eq_zero_or_pos g with h0 | h0
      · rw [h0] at h; rw [Nat.Coprime, Nat.gcd_zero_left] at h; omega
      · exact h0, by have := HGN.out; omega, Nat.le_refl _, Lib.hid ⟨0, by omega⟩, Lib.hid ⟨-1, by omega⟩, Lib.hid (by simp), HCOP, Lib.hid ⟨by simp; omega, by simp⟩⟩
  case round =>
    obtain ⟨ga, gb, gs, gt, a, b, s, t, rfl, rfl, rfl, rfl, HA, HB, HS, HT, HF, ha, han, hbn, H1, H2, HSZ, HCP, HST⟩ := hrel
    have hszw := HF.out.size
    by_cases hb0 : b = 0
    · subst hb0
      have ha1 : a = 1 := by have h := HCP.out; rw [Nat.Coprime, Nat.gcd_zero_right] at h; exact h
      subst ha1
      have HSG := Lib.hid (sign_any gb ((0 : Nat) : Int) wr HB.out)
      rw [show sgn ((0 : Nat) : Int) = 0 from rfl] at HSG
      go_wp2_with (go_at_call 26; refine HSG.out.mono ?_; rintro e w' ⟨rfl, rfl⟩)
      refine (newInt_any 1 _ (by unfold Ri; omega)).mono ?_
      rintro e w5 ⟨go, rfl, hgo, hb, hf⟩
      have HO5 := Lib.hid hb
      have F5 : Hid (Fr [] wr w5) := Lib.hid hf
      have HC := Lib.hid (cmp_is ga go 1 1 true w5 (HA.out.keep0 hf) hb (by rw [BW_eq]; omega) (by rw [BW_eq]; omega) (by simp))
      clear hb hf
      go_wp2_with fail
      refine HC.out.mono ?_
      rintro e w' ⟨c, nd, rfl, hc, rfl⟩
      obtain ⟨w6, hw6⟩ : ∃ w6, w6 = w5.drewN nd := ⟨_, rfl⟩
      rw [← hw6]
      have F6 : Hid (Fr [] wr w6) := Lib.hid (by rw [hw6]; exact F5.out.drewN nd)
      have FW6 : Hid (Fr [] w w6) := Lib.hid (HF.out.trans0 F6.out)
      have hcn : (!(c == 0)) = false := by rw [hc]; rfl
      clear hw6
      go_wp2_with fail
      refine (mod_any gz gs gn s n _ (HZ.out.keep FW6.out (by simp)) (HS.out.keep0 F6.out) (HN.out.keep0 FW6.out) (by have := HL.out _ HST.out.1; omega) (by rw [Int.natAbs_natCast]; have := HL.out n (by omega); omega) (by omega)).mono ?_
      obtain ⟨v, hv⟩ : ∃ v : Nat, (v : Int) = s % n := ⟨(s % n).toNat, by have := Int.emod_nonneg s (show (n : Int) ≠ 0 by omega); omega⟩
      rw [← hv]
      have HV : Hid (v < n ∧ g * v % n = 1) := Lib.hid (by
        constructor
        · have := Int.emod_lt_of_pos s (show (0 : Int) < n by omega); omega
        · obtain ⟨u, hu⟩ := H1.out
          have h1 : ((g * v : Nat) : Int) % n = 1 := by
            rw [Int.natCast_mul, hv, Int.mul_emod, Int.emod_emod_of_dvd _ (Int.dvd_refl _), ← Int.mul_emod, Int.mul_comm, hu, Int.add_mul_emod_self_left]
            exact Int.emod_eq_of_lt (by omega) (by omega)
          rw [← Int.natCast_emod] at h1
          omega)
      rintro e w7 ⟨rfl, hb, hf⟩
      have HB7 := Lib.hid hb
      have F7 := Lib.hid (FW6.out.then_ hf)
      clear hb hf
      go_wp2
      go_ret
      exact ⟨v, HV.out.1, HV.out.2, rfl, HB7.out, F7.out⟩
    · have HSG := Lib.hid (sign_any gb (b : Int) wr HB.out)
      rw [show sgn (b : Int) = 1 by unfold sgn; rw [if_neg (by omega), if_neg (by omega)]] at HSG
      have hqn : a / b ≤ n := Nat.le_trans (Nat.div_le_self _ _) han
      have HN1 : Hid (∃ u : Int, (s - (a / b : Nat) * t) * g = (a % b : Nat) + n * u) := Lib.hid (inv_step H1.out H2.out)
      have HN2 : Hid (t.natAbs * (a % b) + (s - (a / b : Nat) * t).natAbs * b ≤ n) := Lib.hid (inv_size (by omega) HSZ.out)
      have HN3 : Hid (Nat.Coprime b (a % b)) := Lib.hid (by have h := HCP.out; rw [Nat.Coprime, Nat.gcd_comm] at h; rw [Nat.Coprime, Nat.gcd_comm, ← Nat.gcd_rec]; exact h)
      have HN4 : Hid ((s - (a / b : Nat) * t).natAbs ≤ n) := Lib.hid (by
        have h := HN2.out
        have : (s - (a / b : Nat) * t).natAbs * 1 ≤ (s - (a / b : Nat) * t).natAbs * b := Nat.mul_le_mul_left _ (by omega)
        omega)
      have hrb : a % b < b := Nat.mod_lt _ (by omega)
      clear HSZ H1 HCP
      go_wp2_with (go_at_call 26; refine HSG.out.mono ?_; rintro e w' ⟨rfl, rfl⟩)
      obtain ⟨wb, hwb⟩ : ∃ wb, wb = (wr.alloc (.cells #[.bool false, .slice none 0 0] 38)).alloc (.cells #[.bool false, .slice none 0 0] 38) := ⟨_, rfl⟩
      have FB : Hid (Fr [] wr wb) := Lib.hid (by rw [hwb]; exact ((Fr.refl [] wr).alloc _).alloc _)
      have HX0 : Hid (BigAt wb wr.heap.size 0) := Lib.hid (by rw [hwb]; exact (BigAt_new wr).keep0 ((Fr.refl [] _).alloc _))
      have HR0 : Hid (BigAt wb (wr.heap.size + 1) 0) := Lib.hid (by
        have h := BigAt_new (wr.alloc (.cells #[.bool false, .slice none 0 0] 38))
        rw [show (wr.alloc (.cells #[.bool false, .slice none 0 0] 38)).heap.size = wr.heap.size + 1 by simp] at h
        rw [hwb]; exact h)
      rw [← hwb]
      clear hwb
      refine (quoRem_any wr.heap.size ga gb (wr.heap.size + 1) a b wb HX0.out.blk (HA.out.keep0 FB.out) (HB.out.keep0 FB.out) HR0.out.blk (by omega) (by rw [Int.natAbs_natCast]; have := HL.out a han; omega) (by rw [Int.natAbs_natCast]; have := HL.out b hbn; omega) (by omega)).mono ?_
      rw [show ((a : Int).tmod (b : Int)) = ((a % b : Nat) : Int) from rfl, show ((a : Int).tdiv (b : Int)) = ((a / b : Nat) : Int) from rfl]
      generalize a / b = q at *
      rintro e w5 ⟨rfl, hq, hr, hf⟩
      have HQ5 := Lib.hid hq
      have HR5 := Lib.hid hr
      have F5 : Hid (Fr [] wr w5) := Lib.hid (FB.out.trans hf (by intro x hx hlt; simp at hx; omega))
      have HT5 := Lib.hid (HT.out.keep0 F5.out)
      have hqlt := hq.lt
      have hrlt := hr.lt
      clear hq hr hf HX0 HR0 FB
      go_wp2_with fail
      obtain ⟨w6, hw6⟩ : ∃ w6, w6 = w5.alloc (.cells #[.bool false, .slice none 0 0] 38) := ⟨_, rfl⟩
      have F56 : Hid (Fr [] w5 w6) := Lib.hid (by rw [hw6]; exact (Fr.refl [] w5).alloc _)
      have HD6 : Hid (BigAt w6 w5.heap.size 0) := Lib.hid (by rw [hw6]; exact BigAt_new w5)
      have hgtl := HT.out.lt
      have hsz5 := F5.out.size
      rw [← hw6]
      clear hw6
      have HQ6 := Lib.hid (HQ5.out.keep0 F56.out)
      refine (mul_any wr.heap.size wr.heap.size gt q t _ HQ6.out.blk HQ6.out (HT5.out.keep0 F56.out) (by rw [Int.natAbs_natCast]; have := HL.out q hqn; omega) (by have := HL.out _ HST.out.2; omega)).mono ?_
      rintro e w7 ⟨rfl, hb, hf⟩
      have HM7 := Lib.hid hb
      have F7 : Hid (Fr [] wr w7) := Lib.hid ((F5.out.trans0 F56.out).trans hf (by intro x hx hlt; simp at hx; omega))
      have HR7 := Lib.hid ((HR5.out.keep0 F56.out).keep1 hf HQ6.out (by omega))
      have HD7 := Lib.hid (HD6.out.keep1 hf HQ6.out (by omega))
      have hd7 := HD7.out.lt
      clear hb hf
      go_wp2_with fail
      refine (sub_any w5.heap.size gs wr.heap.size s (q * t) _ HD7.out.blk (HS.out.keep0 F7.out) HM7.out (by have := HL.out _ HST.out.1; omega) (by rw [Int.natAbs_mul, Int.natAbs_natCast]; have := limbs_mul_len q t.natAbs; have := HL.out q hqn; have := HL.out _ HST.out.2; omega)).mono ?_
      rintro e w8 ⟨rfl, hb, hf⟩
      have HD8 := Lib.hid hb
      have F8 : Hid (Fr [] wr w8) := Lib.hid (F7.out.trans hf (by intro x hx hlt; simp at hx; omega))
      have HR8 := Lib.hid (HR7.out.keep1 hf HD7.out (by omega))
      clear hb hf
      go_wp2_with fail
      go_roundw
      case rel =>
        exact ⟨gb, wr.heap.size + 1, gt, w5.heap.size, b, a % b, t, s - q * t, rfl, rfl, rfl, rfl, Lib.hid (HB.out.keep0 F8.out), HR8, Lib.hid (HT.out.keep0 F8.out), HD8, Lib.hid (HF.out.trans0 F8.out), by omega, hbn, by omega, H2, HN1, HN2, HN3, Lib.hid ⟨HST.out.2, HN4.out⟩⟩
      case measure =>
        rw [bigVal_eq HR8.out, bigVal_eq HB.out]; exact hrb
end Go.Proofs.YtedoeadhbcjjgaaDoor

/- recur.Shortest's two closures. -/
namespace Go.Proofs.YtedoeadhbcjjgaaDoor
open Go.RowKit

set_option maxRecDepth 100000 in
set_option maxHeartbeats 4000000 in
theorem shortMod_any (gp : Nat) (x : Int) (p : Nat) (w : World) (hx : Ri x) (hp : 1 < p) (hpb : p < 2147483648) (hc : w.cell? ⟨gp, 0, none⟩ = some (.int .i64 (p : Int))) :
    Calls Tryd.prog 12 #[.int .i64 x, .pointer (some ⟨gp, 0, none⟩)] w fun e w' => e = .returned (.int .i64 (x % p)) ∧ ∃ n, w' = w.drewN n := by
  obtain ⟨h1, h2⟩ := hx
  have hr : x.tmod p + p < 2 * p ∧ 0 < x.tmod p + p := by
    have h2 : (x.tmod p).natAbs = x.natAbs % p := Int.natAbs_tmod x p
    have h3 := Nat.mod_lt x.natAbs (show 0 < p by omega)
    omega
  have hres : (x.tmod p + p).tmod p = x % p := by
    rw [Int.tmod_eq_emod_of_nonneg (by omega), Int.add_emod_right]
    exact Int.emod_eq_emod_iff_emod_sub_eq_zero.2 (by
      have h4 := Int.tmod_add_mul_tdiv x p
      have h5 : x.tmod p - x = (p : Int) * (-(x.tdiv p)) := by rw [Int.mul_neg]; omega
      rw [h5]; exact Int.mul_emod_right _ _)
  obtain ⟨r, hrd⟩ : ∃ r, r = x.tmod p := ⟨_, rfl⟩
  obtain ⟨y, hyd⟩ : ∃ y, y = x % p := ⟨_, rfl⟩
  rw [← hrd] at hr hres
  rw [← hyd] at hres ⊢
  have e1 : x.tmod (p : Int) = r := hrd.symm
  have e2 : IntKind.i64.wrap (r + p) = r + p := IntWalk.i64_in _ (by omega)
  have hp0 : ((p : Int) == 0) = false := by simp; omega
  clear hrd hyd
  go_enter Tryd.func12, Tryd.ntmps12
  go_wp2_with fail
  go_quiet (fail)
  go_wp2
  go_ret
  exact ⟨rfl, _, rfl⟩
end Go.Proofs.YtedoeadhbcjjgaaDoor

/- recur.Shortest's second closure: the inverse. -/
namespace Go.Proofs.YtedoeadhbcjjgaaDoor
open Go.RowKit

def ShortInv (x p : Nat) (w : World) (e : Ending) (w' : World) : Prop := ∃ v : Nat, v < p ∧ x * v % p = 1 ∧ e = .returned (.int .i64 (v : Int)) ∧ Fr [] w w'

set_option maxRecDepth 100000 in
set_option maxHeartbeats 8000000 in
theorem shortInv_any (gp : Nat) (x p : Nat) (w : World) (hx : x < p) (hcop : Nat.Coprime x p) (hp : 1 < p) (hpb : p < 2147483648) (hc : w.cell? ⟨gp, 0, none⟩ = some (.int .i64 (p : Int))) :
    Calls Tryd.prog 13 #[.int .i64 (x : Int), .pointer (some ⟨gp, 0, none⟩)] w (ShortInv x p w) := by
  have hrx : Ri (x : Int) := by unfold Ri; omega
  have hrp : Ri (p : Int) := by unfold Ri; omega
  have HRX := Lib.hid hrx
  have HRP := Lib.hid hrp
  have HCOP := Lib.hid hcop
  have hgl := World.block_lt_of_cell? w _ hc
  have F0 : Hid (Fr [] w w.drew) := Lib.hid (Fr.refl [] w).drew
  clear hrx hrp hcop
  go_enter Tryd.func13, Tryd.ntmps13
  go_wp2_with fail
  go_region_held3 (fun w' => w'.cell? ⟨gp, 0, none⟩ = some (.int .i64 (p : Int))) (first | assumption | go_keep | (simp [go_sem, World.cell?_alloc_past, *]))
    (first
    | (go_at_call 15; refine (newInt_any (x : Int) _ HRX.out).mono ?_; rintro e wx ⟨hx', rfl, hhx, hbx, hfx⟩; have lx : gp < wx.heap.size := (by have := hfx.size; (try simp at this); omega); have kx : wx.cell? ⟨gp, 0, none⟩ = some (.int .i64 (p : Int)) := (by rw [hfx.cell (p := ⟨gp, 0, none⟩) (by first | exact hgl | (simp; omega)) (by simp)]; first | assumption | (simp [go_sem, World.cell?_alloc_past, *])); have HBX := Lib.hid hbx; have FX : Hid (Fr [] w wx) := Lib.hid (by first | exact F0.out.trans0 hfx | exact ((Fr.refl [] w).alloc _).drew.trans0 hfx | exact (F0.out.alloc _).trans0 hfx); clear hbx)
    | (go_at_call 15; refine (newInt_any (p : Int) _ HRP.out).mono ?_; rintro e wp ⟨hp', rfl, hhp, hbp, hfp⟩; have lp : gp < wp.heap.size := (by have := hfp.size; (try simp at this); omega); have kp : wp.cell? ⟨gp, 0, none⟩ = some (.int .i64 (p : Int)) := (by rw [hfp.cell (p := ⟨gp, 0, none⟩) (by first | exact lx | (simp; omega)) (by simp)]; first | assumption | (simp [go_sem, World.cell?_alloc_past, *])); have HBP := Lib.hid hbp; have FP : Hid (Fr [] w wp) := Lib.hid (by first | exact FX.out.trans0 hfp | exact (FX.out.alloc _).trans0 hfp); have HBX2 : Hid (BigAt wp hx' x) := Lib.hid (by first | exact HBX.out.keep0 hfp | exact (HBX.out.keep0 ((Fr.refl [] _).alloc _)).keep0 hfp); clear hbp)
    | (go_at_call 14
       first
         | (refine (modInverse_any _ _ _ x p _ ((((BigAt_new w).keep0 (Fr.refl [] _).drew).keep0 hfx).keep0 hfp).blk HBX2.out HBP.out hp (by omega) hx HCOP.out).mono ?_; rintro e wv ⟨v, hv1, hv2, rfl, hb, hf⟩; have HBV := Lib.hid hb; have HV := Lib.hid (And.intro hv1 hv2); have FV : Hid (Fr [] w wv) := Lib.hid (FP.out.own1 hf (Nat.le_refl _)); have kv : wv.cell? ⟨gp, 0, none⟩ = some (.int .i64 (p : Int)) := (by rw [hf.cell (p := ⟨gp, 0, none⟩) lp (by simp; omega)]; exact kp); clear hb hf hv1 hv2)
         | (refine (modInverse_any _ _ _ x p _ ((BigAt_new wx).keep0 hfp).blk HBX2.out HBP.out hp (by omega) hx HCOP.out).mono ?_; rintro e wv ⟨v, hv1, hv2, rfl, hb, hf⟩; have HBV := Lib.hid hb; have HV := Lib.hid (And.intro hv1 hv2); have FV : Hid (Fr [] w wv) := Lib.hid (FP.out.own1 hf FX.out.size); have kv : wv.cell? ⟨gp, 0, none⟩ = some (.int .i64 (p : Int)) := (by rw [hf.cell (p := ⟨gp, 0, none⟩) lp (by simp; omega)]; exact kp); clear hb hf hv1 hv2)
         | (refine (modInverse_any _ _ _ x p _ (BigAt_new wp).blk (HBX2.out.keep0 ((Fr.refl [] _).alloc _)) (HBP.out.keep0 ((Fr.refl [] _).alloc _)) hp (by omega) hx HCOP.out).mono ?_; rintro e wv ⟨v, hv1, hv2, rfl, hb, hf⟩; have HBV := Lib.hid hb; have HV := Lib.hid (And.intro hv1 hv2); have FV : Hid (Fr [] w wv) := Lib.hid ((FP.out.alloc _).own1 hf FP.out.size); have kv : wv.cell? ⟨gp, 0, none⟩ = some (.int .i64 (p : Int)) := (by rw [hf.cell (p := ⟨gp, 0, none⟩) (by simp; omega) (by simp; omega)]; simp [go_sem, World.cell?_alloc_past, *]); clear hb hf hv1 hv2))
    | (go_at_call 16; refine (int64_any _ (v : Int) _ HBV.out (by unfold Ri; have := HV.out.1; omega)).mono ?_; rintro e w' ⟨rfl, rfl⟩))
  all_goals
    go_wp2
    go_ret
    exact ⟨v, HV.out.1, HV.out.2, rfl, FV.out⟩
end Go.Proofs.YtedoeadhbcjjgaaDoor

/- rosettekit.Pick, rosettelaw25.primes. -/
namespace Go.Proofs.YtedoeadhbcjjgaaDoor
open Go.RowKit

set_option maxRecDepth 100000 in
set_option maxHeartbeats 4000000 in
theorem pick_any (x : Int) (n : Nat) (w : World) (hx : Ri x) (hn : 1 ≤ n) (hnb : n < 4294967296) :
    Calls Tryd.prog 7 #[.int .i64 x, .int .i64 (n : Int)] w fun e w' => e = .returned (.int .i64 (x % n)) ∧ w = w' := by
  obtain ⟨h1, h2⟩ := hx
  have e0 : decide ((n : Int) < 1) = false := by simp; omega
  have hp0 : ((n : Int) == 0) = false := by simp; omega
  obtain ⟨r, hr⟩ : ∃ r, r = x.tmod n := ⟨_, rfl⟩
  have e1 : x.tmod (n : Int) = r := hr.symm
  have hb : r.natAbs < n := by rw [hr, Int.natAbs_tmod]; exact Nat.mod_lt _ (by omega)
  by_cases hneg : r < 0
  · have hres : x % n = r + n := by
      have := (ediv_of_neg (x := x) (y := n) (by omega) (by rw [e1]; exact hneg)).2
      rw [this, e1]
    have e2 : decide (r < 0) = true := by simp [hneg]
    rw [hres]
    clear hr hres
    go_enter Tryd.func7, Tryd.ntmps7
    go_wp2
    go_ret
    exact ⟨rfl, rfl⟩
  · have hres : x % n = r := by
      have := (ediv_of_nonneg (x := x) (y := n) (by omega) (by rw [e1]; exact hneg)).2
      rw [this, e1]
    have e2 : decide (r < 0) = false := by simp [hneg]
    rw [hres]
    clear hr hres
    go_enter Tryd.func7, Tryd.ntmps7
    go_wp2
    go_ret
    exact ⟨rfl, rfl⟩
end Go.Proofs.YtedoeadhbcjjgaaDoor

/- rosettekit.SameLongs. -/
namespace Go.Proofs.YtedoeadhbcjjgaaDoor
open Go.RowKit

theorem list_ext_take {xs ys : List Int} (hl : xs.length = ys.length) (h : ∀ j, j < xs.length → xs.getD j 0 = ys.getD j 0) : xs = ys := by
  refine List.ext_getElem hl ?_
  intro i h1 h2
  have := h i h1
  simpa [List.getD, h1, h2] using this

set_option maxRecDepth 100000 in
set_option maxHeartbeats 4000000 in
theorem sameLongs_any (va vb : Value) (xs ys : List Int) (w : World) (ha : SlI w va xs) (hb : SlI w vb ys) (hl : xs.length ≤ 1000000) (hl2 : ys.length ≤ 1000000) :
    Calls Tryd.prog 9 #[va, vb] w fun e w' => e = .returned (.bool (decide (xs = ys))) ∧ ∃ n, w' = w.drewN n := by
  obtain ⟨A, ca, rfl, hca, hxa⟩ := ha.open_
  obtain ⟨B, cb, rfl, hcb, hxb⟩ := hb.open_
  by_cases hne : xs.length = ys.length
  · have e0 : ((xs.length : Int) != (ys.length : Int)) = false := by rw [hne]; simp
    rw [← hne] at hxb hcb ⊢
    have HXA := Lib.hid hxa
    have HXB := Lib.hid hxb
    have HNE := Lib.hid hne
    obtain ⟨n, hn⟩ : ∃ n, n = xs.length := ⟨_, rfl⟩
    rw [← hn] at hl HXA HXB hca hcb ⊢
    have HNN := Lib.hid hn
    have e1 : ((n : Int) != (n : Int)) = false := by simp
    clear ha hb hxa hxb hne e0 hn
    go_enter Tryd.func9, Tryd.ntmps9
    go_wp2
    go_loopw [5] (fun iv wr => ∃ k : Nat, k ≤ n ∧ iv = .int .i64 (k : Int) ∧ Hid (∀ j, j < k → xs.getD j 0 = ys.getD j 0) ∧ Hid (∃ q, wr = w.drewN q)) (fun iv _ => n - (intOf iv).toNat)
    case atStart => exact ⟨0, by omega, rfl, Lib.hid (by intro j hj; omega), Lib.hid ⟨0, rfl⟩⟩
    case round =>
      obtain ⟨k, hk, rfl, HE, HW⟩ := hrel
      obtain ⟨q, rfl⟩ := HW.out
      by_cases hkn : k = n
      · subst hkn
        have hfin : decide (xs = ys) = true := by simp; exact list_ext_take HNE.out (by rw [← HNN.out]; exact HE.out)
        have HF := Lib.hid hfin
        clear hfin
        go_wp2
        go_ret
        exact ⟨by rw [HF.out]; rfl, _, rfl⟩
      · obtain ⟨b, o, rfl, hx2⟩ := HXA.out (by omega)
        obtain ⟨b2, o2, rfl, hy2⟩ := HXB.out (by omega)
        have hcx : w.cell? ⟨b, o + k, none⟩ = some (.int .i64 (xs.getD k 0)) := hx2 k (by omega)
        have hcy : w.cell? ⟨b2, o2 + k, none⟩ = some (.int .i64 (ys.getD k 0)) := hy2 k (by omega)
        have hk2 : k < n := by omega
        clear hx2 hy2
        by_cases hxy : xs.getD k 0 = ys.getD k 0
        · have e2 : (xs.getD k 0 != ys.getD k 0) = false := by rw [hxy]; simp
          have HE2 : Hid (∀ j, j < k + 1 → xs.getD j 0 = ys.getD j 0) := Lib.hid (fun j hj => by rcases Nat.lt_or_ge j k with h | h; exact HE.out j h; rw [show j = k by omega]; exact hxy)
          generalize xs.getD k 0 = a at *
          generalize ys.getD k 0 = c at *
          clear hxy
          go_wp2_with fail
          go_quiet (fail)
          go_wp2_with fail
          go_roundw
          case rel => exact ⟨k + 1, by omega, by go_num, HE2, Lib.hid ⟨_, by first | rfl | (simp only [World.drewN_drewN]; rfl)⟩⟩
          case measure => simp [intOf]; omega
        · have e2 : (xs.getD k 0 != ys.getD k 0) = true := by simpa using hxy
          have hfin : decide (xs = ys) = false := by simp; rintro rfl; exact hxy rfl
          have HF := Lib.hid hfin
          generalize xs.getD k 0 = a at *
          generalize ys.getD k 0 = c at *
          clear hxy hfin
          go_wp2_with fail
          go_quiet (fail)
          go_wp2
          go_ret
          exact ⟨by rw [HF.out]; rfl, _, by first | rfl | (simp only [World.drewN_drewN]; rfl)⟩
  · have e0 : ((xs.length : Int) != (ys.length : Int)) = true := by rw [bne_iff_ne]; omega
    have hfin : decide (xs = ys) = false := by simp; rintro rfl; exact hne rfl
    have HF := Lib.hid hfin
    clear ha hb hxa hxb hne hfin
    go_enter Tryd.func9, Tryd.ntmps9
    go_wp2
    go_ret
    exact ⟨by rw [HF.out]; rfl, 0, rfl⟩
end Go.Proofs.YtedoeadhbcjjgaaDoor

/- rosettelaw25.primes. -/
namespace Go.Proofs.YtedoeadhbcjjgaaDoor
open Go.RowKit

def primeAt (k : Int) : Nat := thePrimes.getD (k % 9).toNat 0
theorem primeAt_mem (k : Int) : primeAt k ∈ thePrimes := by
  have h1 := Int.emod_nonneg k (show (9 : Int) ≠ 0 by omega)
  have h2 := Int.emod_lt_of_pos k (show (0 : Int) < 9 by omega)
  unfold primeAt
  have : ∀ j < 9, thePrimes.getD j 0 ∈ thePrimes := by decide
  exact this _ (by omega)

set_option maxRecDepth 100000 in
set_option maxHeartbeats 4000000 in
theorem primes_any (k : Int) (w : World) (hk : Ri k) : Calls Tryd.prog 5 #[.int .i64 k] w fun e w' => e = .returned (.int .i64 (primeAt k : Int)) ∧ Fr [] w w' := by
  have h1 := Int.emod_nonneg k (show (9 : Int) ≠ 0 by omega)
  have h2 := Int.emod_lt_of_pos k (show (0 : Int) < 9 by omega)
  obtain ⟨j, hj⟩ : ∃ j : Nat, (j : Int) = k % 9 := ⟨(k % 9).toNat, by omega⟩
  have hp : primeAt k = thePrimes.getD j 0 := by unfold primeAt; congr 1; omega
  have HP := Lib.hid hp
  have HC := Lib.hid (pick_any k 9 (w.alloc (.cells #[.int .i64 2, .int .i64 3, .int .i64 5, .int .i64 7, .int .i64 11, .int .i64 101, .int .i64 65537, .int .i64 1000003, .int .i64 2147483647] 2)) hk (by omega) (by omega))
  rw [show ((9 : Nat) : Int) = 9 from rfl, ← hj] at HC
  have hj9 : j < 9 := by omega
  have hcell : (w.alloc (.cells #[.int .i64 2, .int .i64 3, .int .i64 5, .int .i64 7, .int .i64 11, .int .i64 101, .int .i64 65537, .int .i64 1000003, .int .i64 2147483647] 2)).cell? ⟨w.heap.size, j, none⟩ = some (.int .i64 (thePrimes.getD j 0 : Nat)) := by
    match j, hj9 with
    | 0, _ | 1, _ | 2, _ | 3, _ | 4, _ | 5, _ | 6, _ | 7, _ | 8, _ => simp [World.cell?_alloc_new, thePrimes]
  rw [← hp] at hcell
  clear hp hj h1 h2 hk
  generalize primeAt k = pk at *
  go_enter Tryd.func5, Tryd.ntmps5
  go_wp2_with (go_at_call 7; refine HC.out.mono ?_; rintro e w' ⟨rfl, rfl⟩)
  go_ret
  exact ⟨rfl, (Fr.refl [] w).alloc _⟩
end Go.Proofs.YtedoeadhbcjjgaaDoor
