/- Joined by program (merge.py) out of 4 texts, a part of the proof: contracts of the functions that the statement reaches, and plain mathematics. No statement of the seat stands here. -/
import Derived.Test.YtedoeadhbcjjgaaDoorG09
import Derived.WalkSpells
import Derived.Test.YtedoeadhbcjjgaaDoorShelf
import Derived.Deep.RegionHeld3
import Derived.StillTail
import Derived.OrdersHeld
import Derived.KernelRfl
import Derived.Test.YtedoeadhbcjjgaaDoorG03
import Derived.Deep.RegionWith
/- big.Int: put, size, slices.Clone. -/
namespace Go.Proofs.YtedoeadhbcjjgaaDoor
open Go.RowKit

/-- A list's row of the call's own. -/
def OutL (w : World) (xs : List Nat) (e : Ending) (w' : World) : Prop := ∃ v', e = .returned v' ∧ OwU w' w.heap.size v' xs ∧ Fr [] w w'

set_option maxRecDepth 100000 in
set_option maxHeartbeats 2000000 in
theorem clone_any (v : Value) (xs : List Nat) (w : World) (h : SlU w v xs) (hl : xs.length ≤ 1000000000) : Calls Tryd.prog 49 #[v] w (OutL w xs) := by
  have HS := Lib.hid h
  have HL := Lib.hid hl
  obtain ⟨A, c, rfl, hc, hx⟩ := h.open_
  cases A with
  | none =>
    have h0 : xs.length = 0 := by
      rcases Nat.eq_zero_or_pos xs.length with h0 | h0
      · exact h0
      · obtain ⟨_, _, e, _⟩ := hx h0; simp at e
    have hnil : xs = [] := List.eq_nil_of_length_eq_zero h0
    subst hnil
    refine (Tryd.slices_Clone_nil_f49 _ c w).mono ?_
    rintro e w' ⟨rfl, rfl⟩
    exact ⟨_, rfl, OwU_nil _ _, Fr.refl _ _⟩
  | some p =>
    obtain ⟨pb, po, px⟩ := p
    clear h hx hl hc
    have hq : ∀ w, (binOp .eql 36 (.slice (some ⟨pb, po, px⟩) xs.length c) (.slice none 0 0)).run Tryd.prog w = .ok (.bool false) w := fun w => Lib.run_eql_slice_nil w 36 58 _ _ _ _ _ Tryd.underlying36
    go_enter Tryd.func49, Tryd.ntmps49
    go_wp2_with (at_builtin; refine wp_appendS rfl _ _ rfl w.heap.size (.slice (some ⟨w.heap.size, 0, none⟩) 0 0) [] rfl (OwU_empty w w.heap.size (by simp)) (.slice (some ⟨pb, po, px⟩) xs.length c) xs rfl (HS.out.keep0 ((Fr.refl [] w).alloc _)) (by have := HL.out; simp; omega) (by simp) ?_; intro v' w2 ho hfr _ _; have HO := Lib.hid ho; have HF := Lib.hid hfr; clear ho hfr)
    go_ret
    exact ⟨v', rfl, HO.out, ((Fr.refl [] w).alloc _).trans HF.out (by intro x hx hlt; simp [Value.ownBlock] at hx; subst hx; simp at hlt)⟩

/-- How many bits a number has. -/
def bitsOf (a : Nat) : Nat := 64 * (limbs a).length - (64 - bitLen ((limbs a).getD ((limbs a).length - 1) 0))
def SizePost (a : Nat) (w : World) (e : Ending) (w' : World) : Prop := e = .returned (.int .i64 (bitsOf a : Int)) ∧ w = w'

set_option maxRecDepth 100000 in
set_option maxHeartbeats 2000000 in
theorem size_any (v : Value) (a : Nat) (w : World) (h : SlU w v (limbs a)) (hl : (limbs a).length ≤ 1000000000) : Calls Tryd.prog 59 #[v] w (SizePost a w) := by
  obtain ⟨A, c, rfl, _⟩ := h.open_
  by_cases h0 : (limbs a).length = 0
  · have hp : bitsOf a = 0 := by unfold bitsOf; omega
    rw [h0]
    have HP := Lib.hid hp
    clear h hp h0
    go_enter Tryd.func59, Tryd.ntmps59
    go_wp2
    go_ret
    exact ⟨by rw [HP.out]; rfl, rfl⟩
  · obtain ⟨b, o, rfl, h1⟩ := h.get (k := (limbs a).length - 1) (by omega)
    have hp : bitsOf a = 64 * (limbs a).length - (64 - bitLen ((limbs a).getD ((limbs a).length - 1) 0)) := rfl
    have htb := (Bd_limbs a).getD ((limbs a).length - 1)
    have ht0 : (limbs a).getD ((limbs a).length - 1) 0 ≠ 0 := limbs_top (by rintro rfl; rw [limbs_zero] at h0; exact h0 rfl)
    obtain ⟨hb1, _, _, hb2⟩ := bitLen_bounds ht0 htb
    clear h
    generalize (limbs a).getD ((limbs a).length - 1) 0 = t at *
    generalize (limbs a).length = n at *
    have HT := Lib.hid htb
    have HP := Lib.hid hp
    clear hp htb ht0
    go_enter Tryd.func59, Tryd.ntmps59
    go_wp2_with (go_at_call 72; refine (lz64_any t HT.out _).mono ?_; rintro e w' ⟨rfl, rfl⟩)
    go_ret
    refine ⟨?_, rfl⟩
    rw [HP.out]
    show Ending.returned (Value.int IntKind.i64 (64 * (n : Int) - (64 - (bitLen t : Int)))) = _
    congr 2
    omega

/-- What a big number's method tells: its receiver, where the answer stands. -/
def BigPost (g : Nat) (Z : Int) (w : World) (e : Ending) (w' : World) : Prop := e = .returned (.pointer (some ⟨g, 0, none⟩)) ∧ BigAt w' g Z ∧ Fr [g] w w'

theorem IntBlk.cells {w : World} {b : Nat} (h : IntBlk w b) : ∃ n A l c, w.cell? ⟨b, 0, none⟩ = some (.bool n) ∧ w.cell? ⟨b, 1, none⟩ = some (.slice A l c) ∧ w.frozen? ⟨b, 0, none⟩ = false ∧ w.frozen? ⟨b, 1, none⟩ = false := by
  obtain ⟨n, A, l, c, h⟩ := h
  exact ⟨n, A, l, c, cell_of_row w b 0 _ _ _ h, cell_of_row w b 1 _ _ _ h, frozen_of_row w b 0 _ _ h, frozen_of_row w b 1 _ _ h⟩

set_option maxRecDepth 100000 in
set_option maxHeartbeats 2000000 in
theorem put_any (g : Nat) (s : Bool) (v : Value) (xs : List Nat) (Z : Int) (w : World) (hg : IntBlk w g) (hv : SlU w v xs) (hl : xs.length ≤ 1000000000) (hz : Z.natAbs = val xs) (hs : decide (Z < 0) = (s && decide (val xs ≠ 0))) :
    Calls Tryd.prog 48 #[.pointer (some ⟨g, 0, none⟩), .bool s, v] w (BigPost g Z w) := by
  obtain ⟨_, _, _, _, hc0, hc1, hf0, hf1⟩ := hg.cells
  have htr : trimL xs = limbs Z.natAbs := trimL_of_val hv.bd hz.symm
  have hlen : decide (val xs ≠ 0) = decide (0 < (limbs Z.natAbs).length) := by
    rw [← hz]
    by_cases h0 : Z.natAbs = 0
    · rw [h0, limbs_zero]; simp
    · have := List.length_pos_iff.2 (limbs_ne h0)
      simp [this, h0]
  have HT := Lib.hid ((trim_sl v xs w hv (by omega)).mono (R' := fun e w' => ∃ A n c, e = .returned (.slice A n c) ∧ Hid (n = (limbs Z.natAbs).length ∧ SlU w (.slice A n c) (limbs Z.natAbs)) ∧ w = w') (by
    rintro e w' ⟨v', rfl, h, rfl⟩
    rw [htr] at h
    obtain ⟨A, c, rfl, _⟩ := h.open_
    exact ⟨A, _, c, rfl, Lib.hid ⟨rfl, h⟩, rfl⟩))
  have HG := Lib.hid hg
  have HS : Hid (decide (Z < 0) = (s && decide (0 < (limbs Z.natAbs).length))) := Lib.hid (by rw [hs, hlen])
  clear hv hl hz hs htr hlen hg
  cases s
  all_goals
    go_enter Tryd.func48, Tryd.ntmps48
    go_wp2_with (go_at_call 70; refine HT.out.mono ?_; rintro e w' ⟨A, n, c, rfl, HN, rfl⟩)
    go_ret
    have HN2 := HN.out
    obtain ⟨rfl, hsl⟩ := HN2
    exact ⟨rfl, BigAt_put HG.out hsl (by rw [HS.out]; simp), ((Fr.refl [g] w).setCell (by simp) _).setCell (by simp) _⟩
end Go.Proofs.YtedoeadhbcjjgaaDoor

/- A law for a region that draws its order: pure operations and loads in the text's order, calls in between that keep what is read, a last one that need not. -/
namespace Go.Proofs.YtedoeadhbcjjgaaDoor
open Go.RowKit

section
variable {P : Program} {ops : Array Oper} {Q : Exit → Act → World → Prop} {md : Region.Mode} {S : World → Prop} {n : Nat}

/-- Whatever order is picked from here on, and S holds behind every operation ahead of number n. -/
def wpAnyG (P : Program) (md : Region.Mode) (ops : Array Oper) (Q : Exit → Act → World → Prop) (S : World → Prop) (n : Nat) : Nat → Array Bool → Act → World → Prop
  | 0, listed, a, w => Region.ready md ops listed = [] ∧ Q .normal a w
  | fuel + 1, listed, a, w =>
    (Region.ready md ops listed = [] → Q .normal a w) ∧
    ∀ i ∈ Region.ready md ops listed, wpOp P ops Q i (fun a' w' => (i < n → S w') ∧ wpAnyG P md ops Q S n fuel (listed.setIfInBounds i true) a' w') a w

theorem wpAny_of_G : ∀ (fuel : Nat) (listed : Array Bool) (a : Act) (w : World), wpAnyG P md ops Q S n fuel listed a w → wpAny P md ops Q fuel listed a w
  | 0, _, _, _, h => h
  | fuel + 1, _, _, _, h => ⟨h.1, fun i hi => wpOp_mono (fun a' w' h' => wpAny_of_G fuel _ a' w' h'.2) (h.2 i hi)⟩

theorem wpAnyG_first {i : Nat} {oi : Oper} {v : Value} (hi : ops[i]? = some oi) (hin : i < n) (hn : n < ops.size) (hsink : Region.sinkB md ops n = true) (hchain : Region.chainB md ops n = true)
    (hsel : ∀ (j : Nat) (o : Oper) cs b, ops[j]? = some o → o.op ≠ .select cs b) (hQ : ∀ c a w, Q (.panic c) (a.put oi.dst v) w → Q (.panic c) a w) :
    ∀ (fuel : Nat) (listed : Array Bool) (a : Act) (w : World), HeadInv md ops n listed →
      (∀ j oj, ops[j]? = some oj → j ≠ i → listed.getD j true = false → (∀ e ∈ oj.after, Region.binds md e = true → e.on ≠ i) → oi.apart ops oj = true) →
      i ∈ Region.ready md ops listed → YieldsIf P ops S oi v a → S w →
      wpAnyG P md ops Q S n fuel (listed.setIfInBounds i true) (a.put oi.dst v) w → wpAnyG P md ops Q S n (fuel + 1) listed a w := by
  intro fuel
  induction fuel with
  | zero =>
    intro listed a w _ _ hr hy hS H
    refine ⟨fun h => (by rw [h] at hr; cases hr), fun j hj => ?_⟩
    rcases Nat.decEq j i with hne | rfl
    · have h0 := ready_mono hj hne
      rw [H.1] at h0; cases h0
    · exact hy.wpOp hi hS ⟨fun _ => hS, H⟩
  | succ fuel ih =>
    intro listed a w inv hfree hr hy hS H
    refine ⟨fun h => (by rw [h] at hr; cases hr), fun j hj => ?_⟩
    rcases Nat.decEq j i with hne | rfl
    · have hjn : j < n := by
        rcases Nat.lt_or_ge j n with h | h
        · exact h
        · exact absurd hj (tail_waits hsink hchain hn inv (n - i) i rfl hin (mem_ready.1 hr).1 j h)
      obtain ⟨hjun, oj, hoj, hall⟩ := mem_ready.1 hj
      have hno : ∀ e ∈ oj.after, Region.binds md e = true → e.on ≠ i := by
        intro e he hb hon
        have h1 := hall e he hb
        rw [hon, getD_both (mem_ready.1 hr).1] at h1
        cases h1
      have h1 := wpOp_putIf hoj (hfree j oj hoj hne hjun hno) (fun cs b => hsel i oi cs b hi) (fun cs b => hsel j oj cs b hoj) hQ hy (H.2 j (ready_mono hj hne))
      refine wpOp_mono (fun a' w' h => ⟨h.2.1, ih _ a' w' (inv.set hj hjn) ?_ (ready_mono hr (Ne.symm hne)) h.1 (h.2.1 hjn) ?_⟩) h1
      · intro k ok hk hki hun hk2
        refine hfree k ok hk hki ?_ hk2
        rcases Nat.decEq j k with hjk | rfl
        · rwa [Go.getD_set_ne true hjk] at hun
        · exact hjun
      · rw [Array.setIfInBounds_comm _ _ hne]; exact h.2.2
    · exact hy.wpOp hi hS ⟨fun _ => hS, H⟩

/-- In the text's order: kind false: yields under S; kind true: is carried out. -/
def wpLex (P : Program) (ops : Array Oper) (Q : Exit → Act → World → Prop) (S : World → Prop) (n : Nat) : Nat → List (Oper × Bool) → Act → World → Prop
  | _, [], a, w => Q .normal a w
  | k, (o, false) :: l, a, w => ∃ v, YieldsIf P ops S o v a ∧ wpLex P ops Q S n (k + 1) l (a.put o.dst v) w
  | k, (o, true) :: l, a, w => wpOp P ops Q k (fun a' w' => (k < n → S w') ∧ wpLex P ops Q S n (k + 1) l a' w') a w

/-- May the operations be taken so? -/
def lexOk (md : Region.Mode) (ops : Array Oper) (n : Nat) : Nat → List Bool → Array Bool → Bool
  | _, [], listed => (Region.ready md ops listed).isEmpty
  | k, false :: l, listed => decide (k < n) && (Region.ready md ops listed).contains k && Region.free md ops listed k && lexOk md ops n (k + 1) l (listed.setIfInBounds k true)
  | k, true :: l, listed => decide (Region.ready md ops listed = [k]) && lexOk md ops n (k + 1) l (listed.setIfInBounds k true)

theorem wpAnyG_lex (hsel : Region.noSelect ops = true) (hn : n < ops.size) (hsink : Region.sinkB md ops n = true) (hchain : Region.chainB md ops n = true)
    (hQ : ∀ c a d v w, Q (.panic c) (a.put d v) w → Q (.panic c) a w) : ∀ (l : List (Oper × Bool)) (k : Nat) (listed : Array Bool) (a : Act) (w : World), (∀ j, j < l.length → (l[j]?).map (·.1) = ops[k + j]?) →
    (k ≤ n → HeadInv md ops n listed) → (k < n → S w) → lexOk md ops n k (l.map (·.2)) listed = true → wpLex P ops Q S n k l a w → wpAnyG P md ops Q S n l.length listed a w
  | [], k, listed, a, w, _, _, _, hB, h => by
    exact ⟨by simpa [lexOk] using hB, h⟩
  | (o, false) :: l, k, listed, a, w, hl, inv, hS, hB, h => by
    have h0 : ops[k]? = some o := by simpa using (hl 0 (by simp)).symm
    simp only [List.map_cons, lexOk, Bool.and_eq_true, decide_eq_true_eq] at hB
    obtain ⟨⟨⟨hkn, hr⟩, hf⟩, hB'⟩ := hB
    have hr' : k ∈ Region.ready md ops listed := by simpa using hr
    obtain ⟨v, hy, hK⟩ := h
    exact wpAnyG_first h0 hkn hn hsink hchain (Region.noSelect_spec hsel) (fun c a w => hQ c a _ _ w) l.length listed a w (inv (by omega)) (Region.free_spec h0 hf) hr' hy (hS hkn)
      (wpAnyG_lex hsel hn hsink hchain hQ l (k + 1) _ _ _ (fun j hj => by have := hl (j + 1) (by simp; omega); simpa [Nat.add_assoc, Nat.add_comm 1 j] using this)
        (fun _ => (inv (by omega)).set hr' hkn) (fun _ => hS hkn) hB' hK)
  | (o, true) :: l, k, listed, a, w, hl, inv, hS, hB, h => by
    have h0 : ops[k]? = some o := by simpa using (hl 0 (by simp)).symm
    simp only [List.map_cons, lexOk, Bool.and_eq_true, decide_eq_true_eq] at hB
    obtain ⟨hr, hB'⟩ := hB
    have hr' : k ∈ Region.ready md ops listed := by rw [hr]; simp
    refine ⟨fun h1 => (by rw [h1] at hr; cases hr), fun i hi => ?_⟩
    rw [hr] at hi
    have hik : i = k := by simpa using hi
    subst hik
    refine wpOp_mono (fun a' w' h' => ⟨h'.1, wpAnyG_lex hsel hn hsink hchain hQ l (i + 1) _ a' w' (fun j hj => by have := hl (j + 1) (by simp; omega); simpa [Nat.add_assoc, Nat.add_comm 1 j] using this)
      (fun hk => (inv (by omega)).set hr' (by omega)) (fun hk => h'.1 (by omega)) hB' h'.2⟩) h

/-- The law. -/
theorem wp_region_lex {id : Nat} {a : Act} {w : World} {l : List Oper} (kinds : List Bool) (S : World → Prop) (n : Nat) (hm : P.follows .mixedOrders = true)
    (hB : (Region.noSelect l.toArray && decide (n < l.length) && Region.sinkB .any l.toArray n && Region.chainB .any l.toArray n && decide (kinds.length = l.length) && lexOk .any l.toArray n 0 kinds (Array.replicate l.length false)) = true)
    (hQ : ∀ c a d v w, Q (.panic c) (a.put d v) w → Q (.panic c) a w) (hS : S w.drew) (h : wpLex P l.toArray Q S n 0 (l.zip kinds) a w.drew) : (Code.region id l.toArray true).wp P Q a w := by
  simp only [Bool.and_eq_true, decide_eq_true_eq] at hB
  obtain ⟨⟨⟨⟨⟨hsel, hn⟩, hs⟩, hc⟩, hlen⟩, hlex⟩ := hB
  have hzl : (l.zip kinds).length = l.length := by simp [hlen]
  have h1 : ∀ j : Nat, ((l.zip kinds)[j]?).map (fun x => x.1) = l[j]? := by
    intro j
    rw [← List.getElem?_map, List.map_fst_zip (by omega)]
  have h2 : (l.zip kinds).map (fun x => x.2) = kinds := List.map_snd_zip (by omega)
  refine wp_region_any hm (wpAny_of_G (S := S) (n := n) _ _ _ _ ?_)
  have := wpAnyG_lex (md := .any) (S := S) hsel (by simpa using hn) hs hc hQ (l.zip kinds) 0 (Array.replicate l.length false) a w.drew (fun j _ => by rw [h1, Nat.zero_add]; simp)
    (fun _ => ⟨by simp, fun j oj _ hl => (by rw [getD_replicate_false] at hl; cases hl), fun t _ ht => getD_in (by simpa using ht) (getD_replicate_false _ _)⟩) (fun _ => hS) (by rw [h2]; exact hlex) h
  rw [hzl] at this
  simpa using this

/-- An operation that is carried out. -/
theorem lex_step {k : Nat} {o : Oper} {l : List Oper} {ks : List Bool} {a : Act} {w : World} (h0 : ops[k]? = some o) (hw : Region.wanted o (yielded ops a.tmps) = true)
    (h : ∀ K : Act → World → Prop, Hid (∀ a' w', (k < n → S w') → wpLex P ops Q S n (k + 1) (l.zip ks) a' w' → K a' w') → Oper.wp P o a w K Q) : wpLex P ops Q S n k ((o :: l).zip (true :: ks)) a w := by
  show wpOp P ops Q k _ a w
  unfold wpOp
  simp only [h0, hw, if_true]
  exact .inl (h _ (Lib.hid (fun _ _ hS h => ⟨hS, h⟩)))
theorem lex_yield {k : Nat} {o : Oper} {l : List Oper} {ks : List Bool} {a : Act} {w : World} {v : Value} (hw : Region.wanted o (yielded ops a.tmps) = true)
    (hy : ∀ w, S w → (execOp a.eval o).run P w = .ok (.value v) w) (h : wpLex P ops Q S n (k + 1) (l.zip ks) (a.put o.dst v) w) : wpLex P ops Q S n k ((o :: l).zip (false :: ks)) a w :=
  ⟨v, .inl ⟨hw, hy⟩, h⟩
theorem lex_done {k : Nat} {a : Act} {w : World} (h : Q .normal a w) : wpLex P ops Q S n k (([] : List Oper).zip ([] : List Bool)) a w := h
end
end Go.Proofs.YtedoeadhbcjjgaaDoor

/- big.Int: NewInt, SetInt64, Set, Neg, Abs, Sign, Cmp. -/
namespace Go.Proofs.YtedoeadhbcjjgaaDoor
open Go.RowKit

/-- A block that may be written, the number elsewhere or in it: what is read stands. -/
theorem SlU.keepG {w w' : World} {v : Value} {xs : List Nat} (h : SlU w v xs) {g : Nat} (hg : IntBlk w g) (f : Fr [g] w w') : SlU w' v xs := h.keep f (AreInts.one hg)

theorem sign_self (x : Int) : decide (x < 0) = (decide (x < 0) && decide (val (limbs x.natAbs) ≠ 0)) := by
  rw [val_limbs]
  by_cases h : x < 0
  · have h2 : x.natAbs ≠ 0 := by omega
    simp only [h, h2, decide_true, Bool.and_self, ne_eq, not_false_eq_true]
  · simp only [h, decide_false, Bool.false_and]
theorem Fr.then_ {a b c : World} {S : List Nat} (h : Fr [] a b) (k : Fr S b c) : Fr S a c := (h.mono (T := S) (by simp)).trans k (fun _ hx _ => hx)

set_option maxRecDepth 100000 in
set_option maxHeartbeats 2000000 in
theorem set_any (g gx : Nat) (x : Int) (w : World) (hg : IntBlk w g) (hx : BigAt w gx x) (hl : (limbs x.natAbs).length ≤ 100000000) :
    Calls Tryd.prog 25 #[.pointer (some ⟨g, 0, none⟩), .pointer (some ⟨gx, 0, none⟩)] w (BigPost g x w) := by
  obtain ⟨A, n, c, hc0, hc1, _, _, hs⟩ := hx.cells
  have HS := Lib.hid hs
  have HG := Lib.hid hg
  have HL := Lib.hid hl
  have hgl := hx.lt
  obtain ⟨s, hsd⟩ : ∃ s, s = decide (x < 0) := ⟨_, rfl⟩
  rw [← hsd] at hc0
  have HSD := Lib.hid hsd
  clear hs hg hx hl hsd
  go_enter Tryd.func25, Tryd.ntmps25
  go_wp2_with fail
  have F1 : Hid (Fr [] w w.drew) := Lib.hid (Fr.refl [] w).drew
  refine wp_region_lex [false, false, false, false, false, false, false, false, false, true, true, true] (fun w' => w'.cell? ⟨gx, 0, none⟩ = some (.bool s) ∧ w'.cell? ⟨gx, 1, none⟩ = some (.slice A n c)) 10 (by kernel_rfl) (by kernel_rfl) (fun _ _ d _ _ h => by cases d <;> exact h) ⟨hc0, hc1⟩ ?_
  iterate 9 (refine lex_yield (by rfl) (by intro w hSw; (try dsimp only at hSw); go_simp; (try rfl)) ?_; simp only [Act.put, List.setIfInBounds_toArray, List.set_cons_zero, List.set_cons_succ])
  refine lex_step (by rfl) (by rfl) (fun K hK => ?_)
  go_simp
  go_at_call 49
  refine (clone_any _ (limbs x.natAbs) _ (HS.out.keep0 F1.out) (by have := HL.out; omega)).mono ?_
  rintro e w2 ⟨v2, rfl, ho, hf⟩; have HO := Lib.hid ho.sl; have F2 := Lib.hid (F1.out.trans0 hf); have k0 := (hf.cell (p := ⟨gx, 0, none⟩) (by simpa using hgl) (by simp)).trans hc0; have k1 := (hf.cell (p := ⟨gx, 1, none⟩) (by simpa using hgl) (by simp)).trans hc1; clear ho hf
  refine hK.out _ _ (fun _ => ⟨k0, k1⟩) ?_
  clear hK K
  try simp only [Act.put, List.setIfInBounds_toArray, List.set_cons_zero, List.set_cons_succ]
  refine lex_step (by rfl) (by rfl) (fun K hK => ?_)
  go_simp
  go_at_call 48
  refine (put_any g s _ _ x _ (HG.out.keep F2.out (by simp)) HO.out (by have := HL.out; omega) (val_limbs _).symm (by rw [HSD.out]; exact sign_self x)).mono ?_
  rintro e w3 ⟨rfl, hb, hf⟩; have HB := Lib.hid hb; have F3 := Lib.hid (F2.out.then_ hf); clear hb hf
  refine hK.out _ _ (fun h => absurd h (by decide)) ?_
  clear hK K
  try simp only [Act.put, List.setIfInBounds_toArray, List.set_cons_zero, List.set_cons_succ]
  refine lex_step (by rfl) (by rfl) (fun K hK => ?_)
  go_simp
  refine hK.out _ _ (fun h => absurd h (by decide)) ?_
  clear hK K
  refine lex_done ?_
  go_wp2
  go_ret
  exact ⟨rfl, HB.out, F3.out⟩
end Go.Proofs.YtedoeadhbcjjgaaDoor

/- big.Int: Neg, Abs, Mul. (printed by gen_int.py) -/
namespace Go.Proofs.YtedoeadhbcjjgaaDoor
open Go.RowKit

theorem put_limbs (g : Nat) (s : Bool) (v : Value) (k : Nat) (Z : Int) (w : World) (hg : IntBlk w g) (hv : SlU w v (limbs k)) (hl : (limbs k).length ≤ 1000000000) (hz : Z.natAbs = k) (hs : Z < 0 ↔ (s = true ∧ k ≠ 0)) :
    Calls Tryd.prog 48 #[.pointer (some ⟨g, 0, none⟩), .bool s, v] w (BigPost g Z w) := by
  refine put_any g s v (limbs k) Z w hg hv hl (by rw [val_limbs]; exact hz) ?_
  rw [val_limbs]
  rw [Bool.eq_iff_iff]
  simp [hs]
theorem limbs_add_len (a b : Nat) : (limbs (a + b)).length ≤ (limbs a).length + (limbs b).length + 1 := by
  rw [limbs_length_le]
  have h1 := limbs_lt a
  have h2 := limbs_lt b
  have h3 : BW ^ (limbs a).length ≤ BW ^ ((limbs a).length + (limbs b).length) := Nat.pow_le_pow_right BW_pos (by omega)
  have h4 : BW ^ (limbs b).length ≤ BW ^ ((limbs a).length + (limbs b).length) := Nat.pow_le_pow_right BW_pos (by omega)
  rw [Nat.pow_succ]
  generalize BW ^ ((limbs a).length + (limbs b).length) = p at *
  have : p * 2 ≤ p * BW := Nat.mul_le_mul_left _ (by rw [BW_eq]; omega)
  omega
theorem limbs_mul_len (a b : Nat) : (limbs (a * b)).length ≤ (limbs a).length + (limbs b).length := by
  rw [limbs_length_le, Nat.pow_add]
  exact Nat.mul_lt_mul'' (limbs_lt a) (limbs_lt b)

set_option maxRecDepth 100000 in
set_option maxHeartbeats 4000000 in
theorem neg_any (g gx : Nat) (x : Int) (w : World) (hg : IntBlk w g) (hx : BigAt w gx x) (hl : (limbs x.natAbs).length ≤ 100000000) :
    Calls Tryd.prog 51 #[.pointer (some ⟨g, 0, none⟩), .pointer (some ⟨gx, 0, none⟩)] w (BigPost g (-x) w) := by
  obtain ⟨A, n, c, hc0, hc1, _, _, hs⟩ := hx.cells
  have HS := Lib.hid hs
  have HG := Lib.hid hg
  have HL := Lib.hid hl
  have hgl := hx.lt
  obtain ⟨s, hsd⟩ : ∃ s, s = decide (x < 0) := ⟨_, rfl⟩
  rw [← hsd] at hc0
  have HSD : Hid (s = true ↔ x < 0) := Lib.hid (by rw [hsd]; simp)
  clear hs hg hx hl hsd
  go_enter Tryd.func51, Tryd.ntmps51
  go_wp2_with fail
  have F1 : Hid (Fr [] w w.drew) := Lib.hid (Fr.refl [] w).drew
  refine wp_region_lex [false, false, false, false, false, false, false, false, false, false, true, true, true] (fun w' => w'.cell? ⟨gx, 0, none⟩ = some (.bool s) ∧ w'.cell? ⟨gx, 1, none⟩ = some (.slice A n c)) 11 (by kernel_rfl) (by kernel_rfl) (fun _ _ d _ _ h => by cases d <;> exact h) ⟨hc0, hc1⟩ ?_
  iterate 10 (refine lex_yield (by rfl) (by intro w hSw; (try dsimp only at hSw); go_simp; (try rfl)) ?_; simp only [Act.put, List.setIfInBounds_toArray, List.set_cons_zero, List.set_cons_succ])
  refine lex_step (by rfl) (by rfl) (fun K hK => ?_)
  go_simp
  go_at_call 49
  refine (clone_any _ (limbs x.natAbs) _ (HS.out.keep0 F1.out) (by have := HL.out; omega)).mono ?_
  rintro e w2 ⟨v2, rfl, ho, hf⟩; have HO := Lib.hid ho.sl; have F2 := Lib.hid (F1.out.trans0 hf); have k0 := (hf.cell (p := ⟨gx, 0, none⟩) (by simpa using hgl) (by simp)).trans hc0; have k1 := (hf.cell (p := ⟨gx, 1, none⟩) (by simpa using hgl) (by simp)).trans hc1; clear ho hf
  refine hK.out _ _ (fun _ => ⟨k0, k1⟩) ?_
  clear hK K
  try simp only [Act.put, List.setIfInBounds_toArray, List.set_cons_zero, List.set_cons_succ]
  refine lex_step (by rfl) (by rfl) (fun K hK => ?_)
  go_simp
  go_at_call 48
  refine (put_limbs g (!s) _ (x.natAbs) (-x) _ (HG.out.keep F2.out (by simp)) HO.out (by have := HL.out; omega) (by omega) (by have := HSD.out; cases s <;> simp at this ⊢ <;> omega)).mono ?_
  rintro e w3 ⟨rfl, hb, hf⟩; have HB := Lib.hid hb; have F3 := Lib.hid (F2.out.then_ hf); clear hb hf
  refine hK.out _ _ (fun h => absurd h (by decide)) ?_
  clear hK K
  try simp only [Act.put, List.setIfInBounds_toArray, List.set_cons_zero, List.set_cons_succ]
  refine lex_step (by rfl) (by rfl) (fun K hK => ?_)
  go_simp
  refine hK.out _ _ (fun h => absurd h (by decide)) ?_
  clear hK K
  refine lex_done ?_
  go_wp2
  go_ret
  exact ⟨rfl, HB.out, F3.out⟩

set_option maxRecDepth 100000 in
set_option maxHeartbeats 4000000 in
theorem abs_any (g gx : Nat) (x : Int) (w : World) (hg : IntBlk w g) (hx : BigAt w gx x) (hl : (limbs x.natAbs).length ≤ 100000000) :
    Calls Tryd.prog 80 #[.pointer (some ⟨g, 0, none⟩), .pointer (some ⟨gx, 0, none⟩)] w (BigPost g (x.natAbs : Int) w) := by
  obtain ⟨A, n, c, hc0, hc1, _, _, hs⟩ := hx.cells
  have HS := Lib.hid hs
  have HG := Lib.hid hg
  have HL := Lib.hid hl
  have hgl := hx.lt
  obtain ⟨s, hsd⟩ : ∃ s, s = decide (x < 0) := ⟨_, rfl⟩
  rw [← hsd] at hc0
  have HSD : Hid (s = true ↔ x < 0) := Lib.hid (by rw [hsd]; simp)
  clear hs hg hx hl hsd
  go_enter Tryd.func80, Tryd.ntmps80
  go_wp2_with (first
    | (go_at_call 49; refine (clone_any _ (limbs x.natAbs) _ HS.out (by have := HL.out; omega)).mono ?_; rintro e w2 ⟨v2, rfl, ho, hf⟩; have HO := Lib.hid ho.sl; have F2 := Lib.hid hf; clear ho hf)
    | (go_at_call 48; refine (put_limbs g false _ x.natAbs (x.natAbs : Int) _ (HG.out.keep F2.out (by simp)) HO.out (by have := HL.out; omega) (by omega) (by simp)).mono ?_; rintro e w3 ⟨rfl, hb, hf⟩; have HB := Lib.hid hb; have F3 := Lib.hid (F2.out.then_ hf); clear hb hf))
  go_ret
  exact ⟨rfl, HB.out, F3.out⟩

theorem sgn_mul {x y : Int} {s t : Bool} (h : (s = true ↔ x < 0) ∧ (t = true ↔ y < 0)) : x * y < 0 ↔ ((s != t) = true ∧ x.natAbs * y.natAbs ≠ 0) := by
  have e : (s != t) = true ↔ ¬ (s = true ↔ t = true) := by cases s <;> cases t <;> simp
  rw [e, h.1, h.2, Ne, Nat.mul_eq_zero]
  rcases Int.lt_trichotomy x 0 with hx | rfl | hx
  · rcases Int.lt_trichotomy y 0 with hy | rfl | hy
    · have := Int.mul_pos_of_neg_of_neg hx hy
      omega
    · simp
    · have := Int.mul_neg_of_neg_of_pos hx hy
      omega
  · simp
  · rcases Int.lt_trichotomy y 0 with hy | rfl | hy
    · have := Int.mul_neg_of_pos_of_neg hx hy
      omega
    · simp
    · have := Int.mul_pos hx hy
      omega

set_option maxRecDepth 100000 in
set_option maxHeartbeats 4000000 in
theorem mul_any (g gx gy : Nat) (x y : Int) (w : World) (hg : IntBlk w g) (hx : BigAt w gx x) (hy : BigAt w gy y) (hl : (limbs x.natAbs).length ≤ 100000000) (hl2 : (limbs y.natAbs).length ≤ 100000000) :
    Calls Tryd.prog 29 #[.pointer (some ⟨g, 0, none⟩), .pointer (some ⟨gx, 0, none⟩), .pointer (some ⟨gy, 0, none⟩)] w (BigPost g (x * y) w) := by
  obtain ⟨A, n, c, hc0, hc1, _, _, hs⟩ := hx.cells
  obtain ⟨B, m, d, hd0, hd1, _, _, ht⟩ := hy.cells
  have HS := Lib.hid hs
  have HT := Lib.hid ht
  have HG := Lib.hid hg
  have HL := Lib.hid (And.intro hl hl2)
  have hgl := hx.lt
  have hgm := hy.lt
  obtain ⟨s, hsd⟩ : ∃ s, s = decide (x < 0) := ⟨_, rfl⟩
  obtain ⟨t, htd⟩ : ∃ t, t = decide (y < 0) := ⟨_, rfl⟩
  rw [← hsd] at hc0
  rw [← htd] at hd0
  have HSD : Hid ((s = true ↔ x < 0) ∧ (t = true ↔ y < 0)) := Lib.hid (by rw [hsd, htd]; simp)
  clear hs ht hg hx hy hl hl2 hsd htd
  go_enter Tryd.func29, Tryd.ntmps29
  go_wp2_with fail
  have F1 : Hid (Fr [] w w.drew) := Lib.hid (Fr.refl [] w).drew
  refine wp_region_lex [false, false, false, false, false, false, false, false, false, false, false, false, false, false, false, false, false, false, true, true, true] (fun w' => w'.cell? ⟨gx, 0, none⟩ = some (.bool s) ∧ w'.cell? ⟨gx, 1, none⟩ = some (.slice A n c) ∧ w'.cell? ⟨gy, 0, none⟩ = some (.bool t) ∧ w'.cell? ⟨gy, 1, none⟩ = some (.slice B m d)) 19 (by kernel_rfl) (by kernel_rfl) (fun _ _ d _ _ h => by cases d <;> exact h) ⟨hc0, hc1, hd0, hd1⟩ ?_
  iterate 18 (refine lex_yield (by rfl) (by intro w hSw; (try dsimp only at hSw); go_simp; (try rfl)) ?_; simp only [Act.put, List.setIfInBounds_toArray, List.set_cons_zero, List.set_cons_succ])
  refine lex_step (by rfl) (by rfl) (fun K hK => ?_)
  go_simp
  go_at_call 52
  refine (times_any _ _ x.natAbs y.natAbs _ (HS.out.keep0 F1.out) (HT.out.keep0 F1.out) (by have := HL.out; omega) (by have := HL.out; omega)).mono ?_
  rintro e w2 ⟨v2, rfl, ho, hf⟩; have HO := Lib.hid ho.sl; have F2 := Lib.hid (F1.out.trans0 hf); have k0 := (hf.cell (p := ⟨gx, 0, none⟩) (by simpa using hgl) (by simp)).trans hc0; have k1 := (hf.cell (p := ⟨gx, 1, none⟩) (by simpa using hgl) (by simp)).trans hc1; have q0 := (hf.cell (p := ⟨gy, 0, none⟩) (by simpa using hgm) (by simp)).trans hd0; have q1 := (hf.cell (p := ⟨gy, 1, none⟩) (by simpa using hgm) (by simp)).trans hd1; clear ho hf
  refine hK.out _ _ (fun _ => ⟨k0, k1, q0, q1⟩) ?_
  clear hK K
  try simp only [Act.put, List.setIfInBounds_toArray, List.set_cons_zero, List.set_cons_succ]
  refine lex_step (by rfl) (by rfl) (fun K hK => ?_)
  go_simp
  go_at_call 48
  refine (put_limbs g (s != t) _ (x.natAbs * y.natAbs) (x * y) _ (HG.out.keep F2.out (by simp)) HO.out (by have := HL.out; have := limbs_mul_len x.natAbs y.natAbs; omega) (by rw [Int.natAbs_mul]) (by exact sgn_mul HSD.out)).mono ?_
  rintro e w3 ⟨rfl, hb, hf⟩; have HB := Lib.hid hb; have F3 := Lib.hid (F2.out.then_ hf); clear hb hf
  refine hK.out _ _ (fun h => absurd h (by decide)) ?_
  clear hK K
  try simp only [Act.put, List.setIfInBounds_toArray, List.set_cons_zero, List.set_cons_succ]
  refine lex_step (by rfl) (by rfl) (fun K hK => ?_)
  go_simp
  refine hK.out _ _ (fun h => absurd h (by decide)) ?_
  clear hK K
  refine lex_done ?_
  go_wp2
  go_ret
  exact ⟨rfl, HB.out, F3.out⟩
end Go.Proofs.YtedoeadhbcjjgaaDoor
