/- Joined by program (merge.py) out of 4 texts, a part of the proof: contracts of the functions that the statement reaches, and plain mathematics. No statement of the seat stands here. -/
import Derived.Test.YtedoeadhbcjjgaaDoorG17
import Derived.Test.YtedoeadhbcjjgaaDoorG01
/- Rows of whole numbers of api; rosettelaw25.small. -/
namespace Go.Proofs.YtedoeadhbcjjgaaDoor
open Go.RowKit

theorem infoZ : (Tryd.prog.info? 44).map (fun i => (i.zero, i.size, i.bytes)) = some (some (.agg #[.bool false, .slice none 0 0]), 2, 32) := by kernel_rfl

/-- A slice of api.Int that reads as zs. -/
def SlZ (w : World) (v : Value) (zs : List Int) : Prop := ∃ A c, v = .slice A zs.length c ∧ zs.length ≤ c ∧ (0 < zs.length → ∃ b o, A = some ⟨b, o, none⟩ ∧ ∀ i, i < zs.length →
  ∃ A' n c', w.cell? ⟨b, o + i * 2, none⟩ = some (.bool (decide (zs.getD i 0 < 0))) ∧ w.cell? ⟨b, o + i * 2 + 1, none⟩ = some (.slice A' n c') ∧ SlU w (.slice A' n c') (limbs (zs.getD i 0).natAbs))
theorem SlZ.keep0 {w w' : World} {v : Value} {zs : List Int} (h : SlZ w v zs) (f : Fr [] w w') : SlZ w' v zs := by
  obtain ⟨A, c, rfl, hc, hx⟩ := h
  refine ⟨A, c, rfl, hc, fun hl => ?_⟩
  obtain ⟨b, o, rfl, h⟩ := hx hl
  refine ⟨b, o, rfl, fun i hi => ?_⟩
  obtain ⟨A', n, c', h1, h2, h3⟩ := h i hi
  exact ⟨A', n, c', (f.cell (World.block_lt_of_cell? w _ h1) (by simp)).trans h1, (f.cell (World.block_lt_of_cell? w _ h2) (by simp)).trans h2, h3.keep0 f⟩
theorem SlZ_nil (w : World) (A : Option Addr) (c : Nat) : SlZ w (.slice A 0 c) [] := ⟨A, c, rfl, Nat.zero_le _, fun h => by simp at h⟩

/-- A row of the call's own of api.Int. -/
def IntRow (w : World) (base : Nat) (v : Value) (zs : List Int) : Prop := ∃ cs : List Value, w.ownsRow base 44 2 v zs.length cs ∧ ∀ i, i < zs.length →
  ∃ A n c, cs[2 * i]? = some (.bool (decide (zs.getD i 0 < 0))) ∧ cs[2 * i + 1]? = some (.slice A n c) ∧ OwU w base (.slice A n c) (limbs (zs.getD i 0).natAbs) ∧ ∀ k, Value.ownBlock (.slice A n c) = some k → some k ≠ v.ownBlock
theorem IntRow_nil (w : World) (base : Nat) : IntRow w base (.slice none 0 0) [] := ⟨[], World.ownsRow_nil _ _ _ _, fun i hi => by simp at hi⟩
theorem own_cells2 {w : World} {base : Nat} {e : TypeId} {v : Value} {n : Nat} {vs : List Value} (h : w.ownsRow base e 2 v n vs) : ∃ A c, v = .slice A n c ∧ n ≤ c ∧ (0 < n → ∃ g, A = some ⟨g, 0, none⟩ ∧ v.ownBlock = some g ∧ ∀ j, j < 2 * n → w.cell? ⟨g, j, none⟩ = vs[j]?) := by
  rcases h.2 with ⟨rfl, rfl⟩ | ⟨g, cap, cur, rfl, hb, hh, hnc, hcm, hcs, htake⟩
  · refine ⟨none, 0, rfl, ?_, ?_⟩
    · have := h.1; simp at this; omega
    · intro h0; have := h.1; simp at this; omega
  · refine ⟨_, cap, rfl, hnc, fun _ => ⟨g, rfl, rfl, fun j hj => ?_⟩⟩
    rw [cell_of_row w g j cur e _ hh, ← htake, List.getElem?_take, if_pos (by omega)]
    simp
theorem IntRow.slz {w : World} {base : Nat} {v : Value} {zs : List Int} (h : IntRow w base v zs) : SlZ w v zs := by
  obtain ⟨cs, hown, hx⟩ := h
  obtain ⟨A, c, rfl, hc, hcell⟩ := own_cells2 hown
  refine ⟨A, c, rfl, hc, fun hl => ?_⟩
  obtain ⟨g, rfl, _, h⟩ := hcell hl
  refine ⟨g, 0, rfl, fun i hi => ?_⟩
  obtain ⟨A', n, c', h1, h2, h3, _⟩ := hx i hi
  exact ⟨A', n, c', by rw [Nat.zero_add, h _ (by omega), Nat.mul_comm]; exact h1, by rw [Nat.zero_add, h _ (by omega), Nat.mul_comm]; exact h2, h3.sl⟩
theorem IntRow.keep0 {w w' : World} {base : Nat} {v : Value} {zs : List Int} (h : IntRow w base v zs) (f : Fr [] w w') : IntRow w' base v zs := by
  obtain ⟨cs, hown, hx⟩ := h
  refine ⟨cs, own_keep hown f (by simp), fun i hi => ?_⟩
  obtain ⟨A', n, c', h1, h2, h3, h4⟩ := hx i hi
  exact ⟨A', n, c', h1, h2, h3.keep0 f, h4⟩
theorem IntRow.base_le {w : World} {base base' : Nat} {v : Value} {zs : List Int} (h : IntRow w base v zs) (hb : base' ≤ base) : IntRow w base' v zs := by
  obtain ⟨cs, hown, hx⟩ := h
  refine ⟨cs, own_base hown hb, fun i hi => ?_⟩
  obtain ⟨A', n, c', h1, h2, h3, h4⟩ := hx i hi
  exact ⟨A', n, c', h1, h2, h3.base_le hb, h4⟩
theorem IntRow.lt {w : World} {base : Nat} {v : Value} {zs : List Int} (h : IntRow w base v zs) {k : Nat} (hk : v.ownBlock = some k) : base ≤ k ∧ k < w.heap.size := by
  obtain ⟨cs, hown, _⟩ := h
  exact hown.lt k hk

section
variable {w : World} {ops : Array Oper} {rest : List Oper} {o : Oper} {a : Act} {Q : Exit → Act → World → Prop}
theorem wp_appendZ (hg : o.guard = none) (s x : Operand) (hop : o.op = Op.call { callee := Callee.builtin Builtin.append, args := #[s, x], argTypes := #[47, 47] })
    (base : Nat) (v : Value) (zs : List Int) (hs : a.eval s = v) (hown : IntRow w base v zs) (g cc : Nat) (z : Int) (A : Option Addr) (n c : Nat) (hx : a.eval x = .slice (some ⟨g, 0, none⟩) 1 cc)
    (hc0 : w.cell? ⟨g, 0, none⟩ = some (.bool (decide (z < 0)))) (hc1 : w.cell? ⟨g, 1, none⟩ = some (.slice A n c)) (hz : OwU w base (.slice A n c) (limbs z.natAbs)) (hsep : ∀ k, Value.ownBlock (.slice A n c) = some k → some k ≠ v.ownBlock)
    (hn : zs.length ≤ 1000000) (hb : base ≤ w.heap.size)
    (hK : ∀ v' w', IntRow w' base v' (zs ++ [z]) → Fr v.ownBlock.toList w w' → (v'.ownBlock = v.ownBlock ∨ v'.ownBlock = some w.heap.size) → wpList Tryd.prog ops Q rest (a.put o.dst v') w') :
    wpList Tryd.prog ops Q (o :: rest) a w := by
  obtain ⟨i0, hi, hz0, hz1, hz2⟩ := info_parts infoZ
  obtain ⟨cs, hown, hel⟩ := hown
  have hcl := hown.1
  refine wpList_append_own_at w hg s x 47 hop base 44 i0 (.agg #[.bool false, .slice none 0 0]) 2 32 Tryd.underlying47 hi hz0 hz1 hz2 rfl (by decide) v zs.length cs hs hown ⟨g, 0, none⟩ 1 cc [.bool (decide (z < 0)), .slice A n c] hx rfl ?_ ?_ (by unfold maxLen; omega) (by omega) hb ?_
  · intro j u hu
    rw [Addr.add_lit, Nat.zero_add]
    match j, hu with
    | 0, hu => rw [hc0]; simpa using hu
    | 1, hu => rw [hc1]; simpa using hu
    | j + 2, hu => simp at hu
  · intro u hu
    simp at hu
    rcases hu with rfl | rfl <;> rfl
  · intro v' w1 hown' hgrow _ hat
    have f : Fr v.ownBlock.toList w w1 := Fr.of_grown hgrow
    refine hK v' w1 ⟨cs ++ [.bool (decide (z < 0)), .slice A n c], by simpa using hown', fun i hi => ?_⟩ f hat
    have key : ∀ A' n' c' (y : Nat), OwU w base (.slice A' n' c') (limbs y) → (∀ k, Value.ownBlock (.slice A' n' c') = some k → some k ≠ v.ownBlock) → OwU w1 base (.slice A' n' c') (limbs y) ∧ ∀ k, Value.ownBlock (.slice A' n' c') = some k → some k ≠ v'.ownBlock := by
      intro A' n' c' y h1 h2
      refine ⟨h1.keep f (fun k hk hm => h2 k hk (by have h : v.ownBlock = some k := (by simpa using hm); exact h.symm)), fun k hk => ?_⟩
      rcases hat with h | h
      · rw [h]; exact h2 k hk
      · rw [h]; have := (h1.lt hk).2; simp; omega
    by_cases hiz : i < zs.length
    · obtain ⟨A', n', c', h1, h2, h3, h4⟩ := hel i hiz
      rw [show (zs ++ [z]).getD i 0 = zs.getD i 0 by simp only [List.getD]; rw [List.getElem?_append_left hiz]]
      exact ⟨A', n', c', by rw [List.getElem?_append_left (by omega)]; exact h1, by rw [List.getElem?_append_left (by omega)]; exact h2, key _ _ _ _ h3 h4⟩
    · have hie : i = zs.length := by simp at hi; omega
      subst hie
      rw [show (zs ++ [z]).getD zs.length 0 = z by simp only [List.getD]; rw [List.getElem?_append_right (by omega), Nat.sub_self]; rfl]
      exact ⟨A, n, c, by rw [List.getElem?_append_right (by omega), show 2 * zs.length - cs.length = 0 by omega]; rfl, by rw [List.getElem?_append_right (by omega), show 2 * zs.length + 1 - cs.length = 1 by omega]; rfl, key _ _ _ _ hz hsep⟩
end

def RowPost (zs : List Int) (w : World) (e : Ending) (w' : World) : Prop := ∃ v, e = .returned v ∧ IntRow w' w.heap.size v zs ∧ Fr [] w w'

set_option maxRecDepth 100000 in
set_option maxHeartbeats 4000000 in
theorem smallRow_any (v : Value) (zs : List Int) (w : World) (h : SlI w v zs) (hl : zs.length ≤ 100000) :
    Calls Tryd.prog 19 #[v] w (RowPost zs w) := by
  have HS := Lib.hid h
  obtain ⟨A, c, rfl, hc, hcell⟩ := h.open_
  obtain ⟨m, hm⟩ : ∃ m, m = zs.length := ⟨_, rfl⟩
  rw [← hm] at hc hcell HS hl ⊢
  have HM := Lib.hid hm
  have HC := Lib.hid hcell
  clear h hm hcell
  go_enter Tryd.func19, Tryd.ntmps19
  go_wp2_with fail
  go_loopw [3, 4] (fun ov iv wr => ∃ k : Nat, k ≤ m ∧ iv = .int .i64 (k : Int) ∧ Hid (IntRow wr w.heap.size ov (zs.take k)) ∧ Hid (Fr [] w wr)) (fun _ iv _ => m - (intOf iv).toNat)
  case atStart => exact ⟨0, by omega, rfl, Lib.hid (IntRow_nil _ _), Lib.hid (Fr.refl _ _)⟩
  case round =>
    obtain ⟨k, hk, rfl, HO, HF⟩ := hrel
    by_cases hkm : k = m
    · have hkm' := hkm.symm
      subst hkm'
      have HO2 : Hid (IntRow wr w.heap.size u3 zs) := Lib.hid (by have h := HO.out; rw [HM.out, List.take_length] at h; exact h)
      clear HO hkm
      go_wp2
      go_ret
      exact ⟨_, rfl, HO2.out, HF.out⟩
    · have hk2 : k < m := by omega
      obtain ⟨b, o, rfl, hce⟩ := HC.out (by omega)
      have h1 := hce k hk2
      have htk : zs.take (k + 1) = zs.take k ++ [zs.getD k 0] := by
        rw [List.take_succ_eq_append_getElem (by rw [← HM.out]; exact hk2)]
        simp [List.getD, show k < zs.length by rw [← HM.out]; exact hk2]
      have hri := HS.out.ri k
      obtain ⟨x, hxd⟩ : ∃ x, x = zs.getD k 0 := ⟨_, rfl⟩
      rw [← hxd] at h1 htk hri
      have h2 : wr.cell? ⟨b, o + k, none⟩ = some (.int .i64 x) := (HF.out.cell (World.block_lt_of_cell? w _ h1) (by simp)).trans h1
      have HTK := Lib.hid htk
      have HRI := Lib.hid hri
      have HLK : Hid ((zs.take k).length ≤ 1000000) := Lib.hid (by rw [List.length_take]; omega)
      clear hxd htk h1 hce hkm hri
      go_wp2_with fail
      refine (small_any x wr HRI.out).mono ?_
      rintro e w1 ⟨vx, rfl, hv, hf⟩
      obtain ⟨A2, n2, c2, rfl, ho⟩ := hv
      have HX := Lib.hid ho
      have HO1 := Lib.hid (HO.out.keep0 hf)
      have HSEP : Hid (∀ k, Value.ownBlock (.slice A2 n2 c2) = some k → some k ≠ u3.ownBlock) := Lib.hid (by
        intro j hj hj2
        have h1 := (ho.lt hj).1
        have h2 := (HO.out.lt hj2.symm).2
        omega)
      have HF1 := Lib.hid (HF.out.trans0 hf)
      have hszr := HF.out.size
      have hszr1 := hf.size
      clear ho hf
      go_wp2_with (at_builtin; refine wp_appendZ rfl _ _ rfl w.heap.size u3 (zs.take k) rfl (HO1.out.keep0 ((Fr.refl [] w1).alloc _)) w1.heap.size 1 x A2 n2 c2 rfl (by simp [World.cell?_alloc_new]) (by simp [World.cell?_alloc_new]) ((HX.out.base_le (by omega)).keep0 ((Fr.refl [] w1).alloc _)) HSEP.out HLK.out (by simp; omega) ?_; intro v' w2 ho hfr _; have HO2 := Lib.hid ho; have HF2 : Hid (Fr [] w w2) := Lib.hid ((HF1.out.alloc _).trans hfr (by intro x hx hlt; have := ((HO1.out).lt (k := x) (by simpa using hx)).1; omega)); clear ho hfr)
      go_roundw
      case rel => exact ⟨k + 1, by omega, by go_num, Lib.hid (by rw [HTK.out]; exact HO2.out), HF2⟩
      case measure => simp [intOf]; omega
end Go.Proofs.YtedoeadhbcjjgaaDoor

/- limb.Right, recur.right (of right numbers). -/
namespace Go.Proofs.YtedoeadhbcjjgaaDoor
open Go.RowKit

def Yes (b : Bool) (w : World) (e : Ending) (w' : World) : Prop := e = .returned (.bool b) ∧ Fr [] w w'

set_option maxRecDepth 100000 in
set_option maxHeartbeats 4000000 in
theorem limbRight_any (v : Value) (z : Int) (w : World) (hv : IntV w v z) (hl : (limbs z.natAbs).length ≤ 4096) : Calls Tryd.prog 56 #[v] w (Yes true w) := by
  obtain ⟨A, n, c, rfl, hs⟩ := hv
  have hn := hs.len
  by_cases h0 : n = 0
  · subst h0
    have hz : z = 0 := by
      have := limbs_eq_nil.1 (List.eq_nil_of_length_eq_zero hn); omega
    subst hz
    rw [show decide ((0 : Int) < 0) = false from rfl]
    have F1 : Hid (Fr [] w (w.alloc (.cells #[.bool false, .slice A 0 c] 44))) := Lib.hid ((Fr.refl [] w).alloc _)
    clear hs hn hl
    go_enter Tryd.func56, Tryd.ntmps56
    go_wp2
    go_ret
    exact ⟨rfl, F1.out⟩
  · have hnz : z.natAbs ≠ 0 := by intro h; rw [h, limbs_zero] at hn; simp at hn; omega
    obtain ⟨s, hsd⟩ : ∃ s, s = decide (z < 0) := ⟨_, rfl⟩
    rw [← hsd]
    have F1 : Hid (Fr [] w (w.alloc (.cells #[.bool s, .slice A n c] 44))) := Lib.hid ((Fr.refl [] w).alloc _)
    have htop := limbs_top hnz
    rw [hn] at htop hl
    obtain ⟨b, o, rfl, hc⟩ := hs.get (k := n - 1) (by omega)
    obtain ⟨t, ht⟩ : ∃ t, t = (limbs z.natAbs).getD (n - 1) 0 := ⟨_, rfl⟩
    rw [← ht] at htop hc
    have hc2 : (w.alloc (.cells #[.bool s, .slice (some ⟨b, o, none⟩) n c] 44)).cell? ⟨b, o + (n - 1), none⟩ = some (.int .u64 (t : Int)) := (F1.out.cell (World.block_lt_of_cell? w _ hc) (by simp)).trans hc
    have e0 : ((n : Int) == 0) = false := by simpa using h0
    have e1 : ((t : Int) != 0) = true := by rw [bne_iff_ne]; omega
    have hn0 : 0 < n := by omega
    clear hs hn hsd ht hc h0 hnz
    go_enter Tryd.func56, Tryd.ntmps56
    go_wp2
    go_ret
    exact ⟨rfl, F1.out⟩

set_option maxRecDepth 100000 in
set_option maxHeartbeats 4000000 in
theorem right1_any (v : Value) (z : Int) (w : World) (hv : IntV w v z) (hl : (limbs z.natAbs).length ≤ 4096) : Calls Tryd.prog 55 #[v] w (Yes false w) := by
  have HV := Lib.hid hv
  obtain ⟨A, n, c, rfl, hs⟩ := hv
  obtain ⟨s, hsd⟩ : ∃ s, s = decide (z < 0) := ⟨_, rfl⟩
  rw [← hsd] at HV
  rw [← hsd]
  have F1 : Hid (Fr [] w (w.alloc (.cells #[.bool s, .slice A n c] 44))) := Lib.hid ((Fr.refl [] w).alloc _)
  have HC := Lib.hid (limbRight_any _ z _ (HV.out.keep0 F1.out) hl)
  clear hs hsd hl
  go_enter Tryd.func55, Tryd.ntmps55
  go_wp2_with (go_at_call 56; refine HC.out.mono ?_; rintro e w' ⟨rfl, hf⟩; have HF := Lib.hid (F1.out.trans0 hf); clear hf)
  go_ret
  exact ⟨rfl, HF.out⟩

def AllRight (zs : List Int) : Prop := ∀ i, i < zs.length → (limbs (zs.getD i 0).natAbs).length ≤ 4096

set_option maxRecDepth 100000 in
set_option maxHeartbeats 4000000 in
theorem indexFunc_any (v : Value) (zs : List Int) (w : World) (hv : SlZ w v zs) (hl : AllRight zs) (hb : zs.length ≤ 100000) :
    Calls Tryd.prog 78 #[v, .func (.func 55) #[] #[]] w fun e w' => e = .returned (.int .i64 (-1)) ∧ Fr [] w w' := by
  obtain ⟨A, c, rfl, hc, hx⟩ := hv
  obtain ⟨m, hm⟩ : ∃ m, m = zs.length := ⟨_, rfl⟩
  rw [← hm] at hc hx hb ⊢
  have HX := Lib.hid hx
  have HL : Hid (∀ i, i < m → (limbs (zs.getD i 0).natAbs).length ≤ 4096) := Lib.hid (by rw [hm]; exact hl)
  clear hx hl hm
  go_enter Tryd.func78, Tryd.ntmps78
  go_wp2_with fail
  go_loopw [8] (fun iv wr => ∃ k : Nat, k ≤ m ∧ iv = .int .i64 (k : Int) ∧ Hid (Fr [] w wr)) (fun iv _ => m - (intOf iv).toNat)
  case atStart => exact ⟨0, by omega, rfl, Lib.hid (Fr.refl _ _)⟩
  case round =>
    obtain ⟨k, hk, rfl, HF⟩ := hrel
    by_cases hkm : k = m
    · have hkm' := hkm.symm
      subst hkm'
      clear hkm
      go_wp2
      go_ret
      exact ⟨rfl, HF.out⟩
    · have hk2 : k < m := by omega
      obtain ⟨b, o, rfl, hce⟩ := HX.out (by omega)
      obtain ⟨A', n, c', h1, h2, h3⟩ := hce k hk2
      have hr := HL.out k hk2
      obtain ⟨z, hz⟩ : ∃ z, z = zs.getD k 0 := ⟨_, rfl⟩
      rw [← hz] at h1 h3 hr
      have HV : Hid (IntV wr (.agg #[.bool (decide (z < 0)), .slice A' n c']) z) := Lib.hid ⟨A', n, c', rfl, h3.keep0 HF.out⟩
      obtain ⟨s, hsd⟩ : ∃ s, s = decide (z < 0) := ⟨_, rfl⟩
      rw [← hsd] at h1 HV
      have g1 : wr.cell? ⟨b, o + k * 2, none⟩ = some (.bool s) := (HF.out.cell (World.block_lt_of_cell? w _ h1) (by simp)).trans h1
      have g2 : wr.cell? ⟨b, o + k * 2 + 1, none⟩ = some (.slice A' n c') := (HF.out.cell (World.block_lt_of_cell? w _ h2) (by simp)).trans h2
      have HC := Lib.hid (right1_any _ z wr HV.out hr)
      clear hce h1 h2 h3 hr hz hsd hkm
      go_wp2_with (go_at_call 55; refine HC.out.mono ?_; rintro e w' ⟨rfl, hf⟩; have HF2 := Lib.hid (HF.out.trans0 hf); clear hf)
      go_roundw
      case rel => exact ⟨k + 1, by omega, by go_num, HF2⟩
      case measure => simp [intOf]; omega

set_option maxRecDepth 100000 in
set_option maxHeartbeats 4000000 in
theorem rightRow_any (v : Value) (zs : List Int) (w : World) (hv : SlZ w v zs) (hl : AllRight zs) (hb : zs.length ≤ 100000) : Calls Tryd.prog 33 #[v] w (Yes true w) := by
  have HC := Lib.hid (indexFunc_any v zs w hv hl hb)
  clear hv hl hb
  have HD : Calls Tryd.prog 54 #[v, .func (.func 55) #[] #[]] w (Yes false w) := by
    go_enter Tryd.func54, Tryd.ntmps54
    go_wp2_with (go_at_call 78; refine HC.out.mono ?_; rintro e w' ⟨rfl, hf⟩; have HF := Lib.hid hf; clear hf)
    go_ret
    exact ⟨rfl, HF.out⟩
  have HDD := Lib.hid HD
  clear HD
  go_enter Tryd.func33, Tryd.ntmps33
  go_wp2_with (go_at_call 54; refine HDD.out.mono ?_; rintro e w' ⟨rfl, hf⟩; have HF := Lib.hid hf; clear hf)
  go_ret
  exact ⟨rfl, HF.out⟩
end Go.Proofs.YtedoeadhbcjjgaaDoor

/- Rows of bytes; big.Int.SetBytes (of limbs told in bytes), exact.Whole, exact.Int. -/
namespace Go.Proofs.YtedoeadhbcjjgaaDoor
open Go.RowKit

def u8s (xs : List Nat) : List Value := xs.map fun (x : Nat) => Value.int .u8 (x : Int)
theorem u8s_length (xs : List Nat) : (u8s xs).length = xs.length := by simp [u8s]
theorem u8s_set (xs : List Nat) (k x : Nat) : (u8s xs).set k (.int .u8 (x : Int)) = u8s (xs.set k x) := by simp [u8s, List.map_set]
theorem u8s_at {xs : List Nat} {j : Nat} (h : j < xs.length) : (u8s xs)[j]? = some (.int .u8 ((xs.getD j 0 : Nat) : Int)) := by simp [u8s, List.getD, h]
theorem infoB : (Tryd.prog.info? 5).map (fun i => (i.zero, i.size, i.bytes)) = some (some (.int .u8 0), 1, 1) := by kernel_rfl
/-- A full row of n bytes of the call's own, from the head of block g on. -/
def RowB (w : World) (base g n : Nat) (zs : List Nat) : Prop := zs.length = n ∧ w.ownsRow base 5 1 (.slice (some ⟨g, 0, none⟩) n n) n (u8s zs)
theorem RowB.cell {w : World} {base g n : Nat} {zs : List Nat} (h : RowB w base g n zs) {k : Nat} (hk : k < n) : w.cell? ⟨g, k, none⟩ = some (.int .u8 ((zs.getD k 0 : Nat) : Int)) := by
  obtain ⟨A, c, e, _, hx⟩ := own_cells h.2
  obtain ⟨b, o, e2, h3⟩ := hx (by rw [u8s_length, h.1]; omega)
  simp only [Value.slice.injEq] at e
  obtain ⟨rfl, _, _⟩ := e
  simp only [Option.some.injEq, Addr.mk.injEq, and_true] at e2
  obtain ⟨rfl, rfl⟩ := e2
  have h4 := h3 k (by rw [u8s_length, h.1]; exact hk)
  rw [Nat.zero_add] at h4
  rw [h4, u8s_at (by rw [h.1]; exact hk)]
theorem RowB.frozen {w : World} {base g n : Nat} {zs : List Nat} (h : RowB w base g n zs) (hn : 0 < n) (k : Nat) : w.frozen? ⟨g, k, none⟩ = false := by
  rcases h.2.2 with ⟨e, _⟩ | ⟨g', cap, cur, e, hb, hh, _⟩
  · simp at e
  · simp only [Value.slice.injEq, Option.some.injEq, Addr.mk.injEq, and_true, true_and] at e
    obtain ⟨rfl, _⟩ := e
    exact frozen_of_row w g k cur _ hh
theorem RowB.store {w : World} {base g n : Nat} {zs : List Nat} (h : RowB w base g n zs) (k x : Nat) : RowB (w.setCell ⟨g, k, none⟩ (.int .u8 (x : Int))) base g n (zs.set k x) := by
  refine ⟨by simp [h.1], ?_⟩
  have := (h.2.stored k (.int .u8 (x : Int))).1
  rwa [u8s_set] at this
theorem RowB.keep {w w' : World} {base g n : Nat} {zs : List Nat} {S : List Nat} (h : RowB w base g n zs) (f : Fr S w w') (hg : g ∉ S) : RowB w' base g n zs :=
  ⟨h.1, own_keep h.2 f (by intro k hk; simp [Value.ownBlock] at hk; subst hk; exact hg)⟩
theorem RowB.lt {w : World} {base g n : Nat} {zs : List Nat} (h : RowB w base g n zs) : base ≤ g ∧ g < w.heap.size := h.2.lt g rfl
theorem madeB (n : Nat) : (madeCells (Value.int .u8 0).cells (n * 1)).toList = u8s (List.replicate n 0) := by
  rw [show (Value.int .u8 0).cells = #[Value.int .u8 0] from rfl, toList_madeCells_one, Nat.mul_one]; simp [u8s]

section
variable {w : World} {ops : Array Oper} {rest : List Oper} {o : Oper} {a : Act} {Q : Exit → Act → World → Prop}
/-- 'make([]byte, n)'. -/
theorem wp_makeB (hg : o.guard = none) (l c : Operand) (hop : o.op = Op.makeSlice 104 l c) (L C : Int) (n : Nat) (hl : a.eval l = .int .i64 L) (hc : a.eval c = .int .i64 C) (hL : L = (n : Int)) (hC : C = (n : Int))
    (hn : n ≤ 10000000000000) (base : Nat) (hb : base ≤ w.heap.size)
    (hK : ∀ w', RowB w' base w.heap.size n (List.replicate n 0) → Fr [] w w' → w.heap.size < w'.heap.size → wpList Tryd.prog ops Q rest (a.put o.dst (.slice (some ⟨w.heap.size, 0, none⟩) n n)) w') :
    wpList Tryd.prog ops Q (o :: rest) a w := by
  obtain ⟨i0, hi, hz0, hz1, hz2⟩ := info_parts infoB
  refine wpList_make_full w hg l c 104 hop base 5 i0 (.int .u8 0) 1 Tryd.underlying104 hi hz0 hz1 _ _ L C n hl hc hL hC (by rw [hz2]; omega) (by unfold maxLen; omega) hb ?_
  intro w1 hown hgrow
  rw [madeB] at hown
  exact hK w1 ⟨by simp, by simpa using hown⟩ (Fr.of_grown hgrow) (hown.lt w.heap.size rfl).2
end

/-- The limbs' bytes, the highest first. -/
def bytesOf (xs : List Nat) (n : Nat) : List Nat := fillN (fun i => byteAt xs (n - 1 - i)) n n

set_option maxRecDepth 100000 in
set_option maxHeartbeats 4000000 in
theorem setBytes_any (gz gb base : Nat) (xs : List Nat) (w : World) (hz : IntBlk w gz) (hb : RowB w base gb (8 * xs.length) (bytesOf xs (8 * xs.length))) (hbd : Bd xs) (hl : xs.length ≤ 1000000) :
    Calls Tryd.prog 82 #[.pointer (some ⟨gz, 0, none⟩), .slice (some ⟨gb, 0, none⟩) (8 * xs.length) (8 * xs.length)] w (BigPost gz (val xs : Int) w) := by
  have HZ := Lib.hid hz
  have HB := Lib.hid hb
  have HBD := Lib.hid hbd
  have hgb := hb.lt.2
  obtain ⟨m, hm⟩ : ∃ m, m = xs.length := ⟨_, rfl⟩
  rw [← hm] at HB hl ⊢
  have HM := Lib.hid hm
  obtain ⟨N, hN⟩ : ∃ N, N = 8 * m := ⟨_, rfl⟩
  rw [← hN] at HB ⊢
  have HNN := Lib.hid hN
  have hNb : N ≤ 8000000 := by omega
  have e8 : (N : Int) / 8 = (m : Int) := by omega
  clear hz hb hbd hm hN
  go_enter Tryd.func82, Tryd.ntmps82
  go_wp2_with (at_make; refine wp_makeU rfl _ _ rfl _ _ (m + 1) rfl rfl (by omega) (by omega) (by omega) w.heap.size (Nat.le_refl _) ?_; intro w1 hown hgrow hsz; have HO := Lib.hid hown; have HG := Lib.hid hgrow; clear hown hgrow)
  obtain ⟨g, hg⟩ : ∃ g, g = w.heap.size := ⟨_, rfl⟩
  rw [← hg] at HO hsz ⊢
  have HGG := Lib.hid hg
  have hgbg : gb < g := by omega
  have HR0 : Hid (RowU w1 g g (m + 1) (topL xs N)) := Lib.hid (by
    rw [HNN.out, HM.out, topL_all HBD.out]
    rw [← HM.out]
    exact ⟨by simp, HO.out⟩)
  have HB1 : Hid (RowB w1 base gb N (bytesOf xs N)) := Lib.hid (HB.out.keep HG.out (by simp))
  clear hg HO HB e8
  go_loopw [15] (fun iv wr => ∃ k : Nat, k ≤ N ∧ iv = .int .i64 (k : Int) ∧ Hid (RowU wr g g (m + 1) (topL xs (N - k))) ∧ Hid (Fr [g] w1 wr)) (fun iv _ => N - (intOf iv).toNat)
  case atStart => exact ⟨0, by omega, rfl, HR0, Lib.hid (Fr.refl _ _)⟩
  case round =>
    obtain ⟨k, hk, rfl, HR, HF⟩ := hrel
    by_cases hkN : k = N
    · have hkN' := hkN.symm
      subst hkN'
      have HRF : Hid (SlU wr (.slice (some ⟨g, 0, none⟩) (m + 1) (m + 1)) (xs ++ [0])) := Lib.hid (by
        have h := HR.out.2.sl
        rw [Nat.sub_self, topL_zero] at h
        exact h)
      have HV : Hid (val (xs ++ [0]) = val xs) := Lib.hid (by rw [val_append]; simp [val])
      have FW : Hid (Fr [] w wr) := Lib.hid (HG.out.own1 HF.out (by rw [HGG.out]; exact Nat.le_refl _))
      have HLN : Hid ((xs ++ [0]).length ≤ 1000000000) := Lib.hid (by simp [← HM.out]; omega)
      clear hkN HR
      go_wp2_with (go_at_call 48; refine (put_any gz false _ (xs ++ [0]) (val xs : Int) wr (HZ.out.keep FW.out (by simp)) HRF.out HLN.out (by rw [HV.out]; simp) (by simp)).mono ?_; rintro e w2 ⟨rfl, hbz, hf⟩; have HBZ := Lib.hid hbz; have HF2 := Lib.hid (FW.out.then_ hf); clear hbz hf)
      go_ret
      exact ⟨rfl, HBZ.out, HF2.out⟩
    · have hk2 : k < N := by omega
      obtain ⟨t, ht⟩ : ∃ t, N - k = t + 1 := ⟨N - k - 1, by omega⟩
      have htN : t < 8 * m := by have := HNN.out; omega
      have hR := HR.out
      rw [ht] at hR
      have HRt := Lib.hid hR
      have hcb := HB1.out.cell hk2
      unfold bytesOf at hcb
      rw [fillN_at _ hk2, if_pos hk2, show N - 1 - k = t by omega] at hcb
      have hcb2 := (HF.out.cell (p := ⟨gb, k, none⟩) (World.block_lt_of_cell? w1 _ hcb) (by simp; omega)).trans hcb
      have hco := hR.cell (k := t / 8) (by omega)
      have hset := topL_set HBD.out (t := t) (by rw [← HM.out]; exact htN)
      obtain ⟨hi, hmul⟩ := topL_mult xs (t := t) (by rw [← HM.out]; exact htN)
      have hsl := byte_shift_lt xs t
      have hbl := byteAt_lt xs t
      have hxb := (topL_bd HBD.out (t + 1)).getD (t / 8)
      have hxb2 := (topL_bd HBD.out t).getD (t / 8)
      obtain ⟨s, hs⟩ : ∃ s, s = 8 * (t % 8) := ⟨_, rfl⟩
      obtain ⟨d, hd⟩ : ∃ d, d = byteAt xs t := ⟨_, rfl⟩
      obtain ⟨x, hx⟩ : ∃ x, x = (topL xs (t + 1)).getD (t / 8) 0 := ⟨_, rfl⟩
      rw [← hs, ← hd] at hsl
      rw [← hs, ← hd, ← hx] at hset
      rw [← hs, ← hx] at hmul
      rw [← hd] at hcb2 hbl
      rw [← hx] at hco hxb
      have hs56 : s ≤ 56 := by omega
      have hdsb : d * 2 ^ s < BW := by
        have h1 : 2 ^ (s + 8) ≤ 2 ^ 64 := Nat.pow_le_pow_right (by omega) (by omega)
        rw [← BW_pow] at h1; omega
      have e1 : IntKind.u64.wrap ((d : Int) * 2 ^ s) = ((d * 2 ^ s : Nat) : Int) := by
        rw [show ((d : Int) * 2 ^ s) = ((d * 2 ^ s : Nat) : Int) by simp, wrapU_lt hdsb]
      have e2 : bits .or .u64 (x : Int) ((d * 2 ^ s : Nat) : Int) = ((x + d * 2 ^ s : Nat) : Int) := or_add (s := s + 8) (hi := hi) hmul hxb hsl hdsb
      obtain ⟨y, hy⟩ : ∃ y, y = d * 2 ^ s := ⟨_, rfl⟩
      rw [← hy] at e1 e2 hset
      have hyb : x + y < BW := by
        have h2 : (topL xs t).getD (t / 8) 0 = x + y := by rw [← hset, getD_set_self (by rw [topL_length, ← HM.out]; omega)]
        rw [h2] at hxb2; exact hxb2
      obtain ⟨z, hz⟩ : ∃ z, z = x + y := ⟨_, rfl⟩
      rw [← hz] at e2 hset hyb
      have HSET := Lib.hid hset
      have HYB := Lib.hid hyb
      have hfz := hR.frozen (by omega)
      have r1 : (N : Int) - 1 - k = (t : Int) := by omega
      obtain ⟨q, hq⟩ : ∃ q, q = t / 8 := ⟨_, rfl⟩
      rw [← hq] at hco HSET
      have r2 : (t : Int) / 8 = (q : Int) := by omega
      have r3 : 8 * ((t : Int) % 8) = (s : Int) := by omega
      obtain ⟨r, hr⟩ : ∃ r, r = t % 8 := ⟨_, rfl⟩
      have r4 : (t : Int).tmod 8 = (r : Int) := by rw [Int.tmod_eq_emod_of_nonneg (by omega)]; omega
      have r10 : IntKind.u64.wrap (d : Int) = (d : Int) := IntWalk.u64_in _ (by omega)
      have r11 : (0 : Int) ≤ s := by omega
      have r12 : (s : Int) < 64 := by omega
      have r5 : 8 * (r : Int) = (s : Int) := by omega
      have hqm : q < m + 1 := by omega
      have r6 : IntKind.i64.wrap (q : Int) = (q : Int) := IntWalk.i64_in _ (by omega)
      have r7 : IntKind.i64.wrap (s : Int) = (s : Int) := IntWalk.i64_in _ (by omega)
      have r8 : IntKind.i64.wrap (r : Int) = (r : Int) := IntWalk.i64_in _ (by omega)
      have r9 : (q : Int) < (m : Int) + 1 := by omega
      have HTT : Hid (N - (k + 1) = t) := Lib.hid (by omega)
      have hk0 : k < N := hk2
      have hd256 : d < 256 := hbl
      clear ht hR hcb hmul hsl hxb hxb2 hs hd hx hdsb hy hset hyb hz hq hr hkN HR hbl
      go_wp2_with fail
      refine wp_region_lexP [(0, false), (1, false), (2, false), (3, false), (4, false), (5, false), (6, false), (7, false), (8, false), (9, false), (10, false), (11, false), (12, false), (13, false), (14, false), (15, false), (16, true)] (fun w' => w'.cell? ⟨gb, k, none⟩ = some (.int .u8 (d : Int)) ∧ w'.cell? ⟨g, q, none⟩ = some (.int .u64 (x : Int))) 16 (by kernel_rfl) (by kernel_rfl) (fun _ _ d _ _ h => by cases d <;> exact h) ⟨hcb2, hco⟩ ?_
      iterate 16 (refine lexP_yield (by rfl) (by rfl) (by intro w hSw; (try dsimp only at hSw); go_simp; (try rfl)) ?_; simp only [Act.put, List.setIfInBounds_toArray, List.set_cons_zero, List.set_cons_succ])
      refine lexP_step (by rfl) (by rfl) (fun K hK => ?_)
      go_simp
      refine hK.out _ _ (fun h => absurd h (by decide)) ?_
      clear hK K
      refine lexP_done ?_
      go_wp2_with fail
      go_roundw
      case rel => exact ⟨k + 1, by omega, by go_num, Lib.hid (by
        have h := (HRt.out.keep (Fr.refl [] wr).drew (by simp)).store q z HYB.out
        rw [HSET.out, ← HTT.out] at h
        exact h), Lib.hid (HF.out.drew.setCell (by simp) _)⟩
      case measure => simp [intOf]; omega
end Go.Proofs.YtedoeadhbcjjgaaDoor

/- exact.Whole, exact.Int. -/
namespace Go.Proofs.YtedoeadhbcjjgaaDoor
open Go.RowKit

/-- A new big number. -/
def NewBig (z : Int) (w : World) (e : Ending) (w' : World) : Prop := ∃ g, e = .returned (.pointer (some ⟨g, 0, none⟩)) ∧ w.heap.size ≤ g ∧ BigAt w' g z ∧ Fr [] w w'

set_option maxRecDepth 100000 in
set_option maxHeartbeats 4000000 in
theorem exWhole_any (v : Value) (xs : List Nat) (w : World) (h : SlU w v xs) (hl : xs.length ≤ 1000000) :
    Calls Tryd.prog 61 #[v] w (NewBig (val xs : Int) w) := by
  have HBD := Lib.hid h.bd
  obtain ⟨A, c, rfl, hc, hcell⟩ := h.open_
  obtain ⟨m, hm⟩ : ∃ m, m = xs.length := ⟨_, rfl⟩
  rw [← hm] at hc hcell hl ⊢
  have HM := Lib.hid hm
  have HC := Lib.hid hcell
  obtain ⟨N, hN⟩ : ∃ N, N = 8 * m := ⟨_, rfl⟩
  have HNN := Lib.hid hN
  have hNb : N ≤ 8000000 := by omega
  have e8 : 8 * (m : Int) = (N : Int) := by omega
  clear h hm hcell hN
  go_enter Tryd.func61, Tryd.ntmps61
  go_wp2_with (at_make; refine wp_makeB rfl _ _ rfl _ _ N rfl rfl (by omega) (by omega) (by omega) w.heap.size (Nat.le_refl _) ?_; intro w1 hown hgrow hsz; have HO := Lib.hid hown; have HG := Lib.hid hgrow; clear hown hgrow)
  obtain ⟨g, hg⟩ : ∃ g, g = w.heap.size := ⟨_, rfl⟩
  rw [← hg] at HO hsz ⊢
  have HGG := Lib.hid hg
  have HR0 : Hid (RowB w1 g g N (fillN (fun i => byteAt xs (N - 1 - i)) N 0)) := Lib.hid (by rw [fillN_zero]; exact HO.out)
  clear hg HO e8
  go_loopw [12] (fun iv wr => ∃ k : Nat, k ≤ N ∧ iv = .int .i64 (k : Int) ∧ Hid (RowB wr g g N (fillN (fun i => byteAt xs (N - 1 - i)) N k)) ∧ Hid (Fr [g] w1 wr)) (fun iv _ => N - (intOf iv).toNat)
  case atStart => exact ⟨0, by omega, rfl, HR0, Lib.hid (Fr.refl _ _)⟩
  case round =>
    obtain ⟨k, hk, rfl, HR, HF⟩ := hrel
    have FW : Hid (Fr [] w wr) := Lib.hid (HG.out.own1 HF.out (by rw [HGG.out]; exact Nat.le_refl _))
    by_cases hkN : k = N
    · have hkN' := hkN.symm
      subst hkN'
      have HRB : Hid (RowB wr g g N (bytesOf xs N)) := HR
      clear hkN HR
      have HS2 : Hid (∀ o, RowB (wr.alloc o) g g (8 * xs.length) (bytesOf xs (8 * xs.length))) := Lib.hid (fun o => by
        have h := HRB.out.keep ((Fr.refl [] wr).alloc o) (by simp)
        rw [← HM.out, ← HNN.out]; exact h)
      have hNx : N = 8 * xs.length := by rw [HNN.out, HM.out]
      have HC2 : Hid (∀ w0, IntBlk w0 wr.heap.size → RowB w0 g g (8 * xs.length) (bytesOf xs (8 * xs.length)) → Calls Tryd.prog 82 #[.pointer (some ⟨wr.heap.size, 0, none⟩), .slice (some ⟨g, 0, none⟩) N N] w0 (BigPost wr.heap.size (val xs : Int) w0)) := Lib.hid (fun w0 h1 h2 => by
        rw [hNx]; exact setBytes_any _ g g xs w0 h1 h2 HBD.out (by rw [← HM.out]; exact hl))
      clear hNx
      go_wp2_with fail
      refine (HC2.out _ (BigAt_new wr).blk (HS2.out _)).mono ?_
      rintro e w2 ⟨rfl, hb, hf⟩
      have HB := Lib.hid hb
      have HF2 := Lib.hid ((FW.out.alloc _).own1 hf FW.out.size)
      have hge := FW.out.size
      clear hb hf
      go_wp2
      go_ret
      exact ⟨_, rfl, hge, HB.out, HF2.out⟩
    · have hk2 : k < N := by omega
      obtain ⟨t, ht⟩ : ∃ t, t = N - 1 - k := ⟨_, rfl⟩
      have htN : t < 8 * m := by have := HNN.out; omega
      obtain ⟨b, o, rfl, hce⟩ := HC.out (by omega)
      have h1 := hce (t / 8) (by omega)
      have hbt := byteAt_lt xs t
      have hxb := HBD.out.getD (t / 8)
      rw [BW_eq] at hxb
      unfold byteAt at hbt
      obtain ⟨x, hx⟩ : ∃ x, x = xs.getD (t / 8) 0 := ⟨_, rfl⟩
      rw [← hx] at h1 hbt hxb
      have hb0 : byteAt xs t = x / 2 ^ (8 * (t % 8)) % 256 := by unfold byteAt; rw [hx]
      have hset2 : (fillN (fun i => byteAt xs (N - 1 - i)) N k).set k (x / 2 ^ (8 * (t % 8)) % 256) = fillN (fun i => byteAt xs (N - 1 - i)) N (k + 1) := by
        have h := fillN_set (fun i => byteAt xs (N - 1 - i)) N k
        rw [← hb0, ht]
        exact h
      have h2 : wr.cell? ⟨b, o + t / 8, none⟩ = some (.int .u64 (x : Int)) := (FW.out.cell (World.block_lt_of_cell? w _ h1) (by simp)).trans h1
      obtain ⟨s, hs⟩ : ∃ s, s = 8 * (t % 8) := ⟨_, rfl⟩
      rw [← hs] at hset2 hbt
      have hs56 : s ≤ 56 := by omega
      obtain ⟨y, hy⟩ : ∃ y, y = x / 2 ^ s % 256 := ⟨_, rfl⟩
      rw [← hy] at hset2 hbt
      have r0 : (N : Int) - 1 - k = (t : Int) := by omega
      obtain ⟨q, hq⟩ : ∃ q, q = t / 8 := ⟨_, rfl⟩
      rw [← hq] at h2
      have r2 : (t : Int) / 8 = (q : Int) := by omega
      obtain ⟨r, hr⟩ : ∃ r, r = t % 8 := ⟨_, rfl⟩
      have r4 : (t : Int) % 8 = (r : Int) := by omega
      have r5 : 8 * (r : Int) = (s : Int) := by omega
      have r6 : IntKind.u8.wrap ((x : Int) / 2 ^ s) = (y : Int) := by
        rw [IntKind.wrap_u8, hy]
        simp
      have hqm : q < m := by omega
      obtain ⟨z0, hz0⟩ : ∃ z0, wr.cell? ⟨g, k, none⟩ = some z0 := ⟨_, HR.out.cell hk2⟩
      have hfz := HR.out.frozen (by omega)
      have HSET := Lib.hid hset2
      clear ht hce h1 hset2 hx hb0 hs hy hq hr hkN
      go_wp2_with fail
      go_roundw
      case rel => exact ⟨k + 1, by omega, by go_num, Lib.hid (by
        have h := HR.out.store k y
        rw [HSET.out] at h
        exact h), Lib.hid (HF.out.setCell (by simp) _)⟩
      case measure => simp [intOf]; omega

set_option maxRecDepth 100000 in
set_option maxHeartbeats 4000000 in
theorem exInt_any (v : Value) (z : Int) (w : World) (h : IntV w v z) (hl : (limbs z.natAbs).length ≤ 1000000) :
    Calls Tryd.prog 38 #[v] w (NewBig z w) := by
  obtain ⟨A, n, c, rfl, hs⟩ := h
  have hn := hs.len
  obtain ⟨s, hsd⟩ : ∃ s, s = decide (z < 0) := ⟨_, rfl⟩
  rw [← hsd]
  have F1 : Hid (Fr [] w (w.alloc (.cells #[.bool s, .slice A n c] 44))) := Lib.hid ((Fr.refl [] w).alloc _)
  have HC := Lib.hid (exWhole_any _ (limbs z.natAbs) _ (hs.keep0 F1.out) hl)
  have HSD := Lib.hid hsd
  have HL := Lib.hid hl
  rw [val_limbs] at HC
  clear hs hn hsd hl
  go_enter Tryd.func38, Tryd.ntmps38
  go_wp2_with fail
  refine HC.out.mono ?_
  rintro e w1 ⟨g, rfl, hg, hb, hf⟩
  have c0 := fresh_cell hf 0
  simp at c0
  have HB := Lib.hid hb
  have F2 : Hid (Fr [] w w1) := Lib.hid (F1.out.trans0 hf)
  have hgw : w.heap.size ≤ g := by simp at hg; omega
  clear hb hf hg
  cases s
  · have hz : (z.natAbs : Int) = z := by
      have h := HSD.out
      have h2 : ¬ z < 0 := by simpa using h.symm
      omega
    have HZ := Lib.hid hz
    clear hz
    go_wp2
    go_ret
    exact ⟨g, rfl, hgw, by have h := HB.out; rw [HZ.out] at h; exact h, F2.out⟩
  · have hz : -(z.natAbs : Int) = z := by
      have h := HSD.out
      have h2 : z < 0 := by simpa using h.symm
      omega
    have HZ := Lib.hid hz
    clear hz
    go_wp2_with (go_at_call 51; refine (neg_any g g (z.natAbs : Int) w1 HB.out.blk HB.out (by rw [Int.natAbs_natCast]; have := HL.out; omega)).mono ?_; rintro e w2 ⟨rfl, hb2, hf2⟩; have HB2 := Lib.hid hb2; have F3 := Lib.hid (F2.out.own1 hf2 hgw); clear hb2 hf2)
    go_ret
    exact ⟨g, rfl, hgw, by have h := HB2.out; rw [HZ.out] at h; exact h, F3.out⟩
end Go.Proofs.YtedoeadhbcjjgaaDoor
