/- Joined by program (merge.py) out of 2 texts, a part of the proof: contracts of the functions that the statement reaches, and plain mathematics. No statement of the seat stands here. -/
import Derived.Test.YtedoeadhbcjjgaaDoorG01
import Derived.Test.YtedoeadhbcjjgaaDoorChecked
import Derived.WalkKit
import Derived.Lib.Hide
import Derived.Deep.LoopGhost
import Derived.Deep.Draws
import Derived.Test.YtedoeadhbcjjgaaDoorShelf
import Derived.Laws.Externs
import Derived.Shelf.Spec.BitsCarry
import Derived.KernelRfl
/- The world's predicates for this seat's walks: frames, slices of whole numbers, big numbers behind pointers. No function of the program. -/
namespace Go.Proofs.YtedoeadhbcjjgaaDoor
open Go.RowKit

theorem below_drewN {B : Nat} {w w' : World} (h : Below B w w') (n : Nat) : Below B w (w'.drewN n) := ⟨h.os, h.tape, h.output, h.size, h.block⟩

/-- w' is w but for new blocks and what has been written to the blocks of S. -/
structure Fr (S : List Nat) (w w' : World) : Prop where
  os : w'.os = w.os
  tape : w'.tape = w.tape
  output : w'.output = w.output
  size : w.heap.size ≤ w'.heap.size
  block : ∀ k, k < w.heap.size → k ∉ S → w'.heap[k]? = w.heap[k]?

theorem Fr.refl (S : List Nat) (w : World) : Fr S w w := ⟨rfl, rfl, rfl, Nat.le_refl _, fun _ _ _ => rfl⟩
theorem Fr.trans {S T : List Nat} {a b c : World} (h : Fr S a b) (k : Fr T b c) (hT : ∀ x ∈ T, x < a.heap.size → x ∈ S) : Fr S a c :=
  ⟨k.os.trans h.os, k.tape.trans h.tape, k.output.trans h.output, Nat.le_trans h.size k.size,
    fun i hi hS => (k.block i (Nat.lt_of_lt_of_le hi h.size) (fun hT' => hS (hT i hT' hi))).trans (h.block i hi hS)⟩
theorem Fr.trans0 {S : List Nat} {a b c : World} (h : Fr S a b) (k : Fr [] b c) : Fr S a c := h.trans k (by simp)
theorem Fr.mono {S T : List Nat} {a b : World} (h : Fr S a b) (hT : ∀ x ∈ S, x < a.heap.size → x ∈ T) : Fr T a b :=
  ⟨h.os, h.tape, h.output, h.size, fun i hi hn => h.block i hi (fun hS => hn (hT i hS hi))⟩
theorem Fr.of_below {w w' : World} (h : Below w.heap.size w w') : Fr [] w w' := ⟨h.os, h.tape, h.output, h.size, fun k hk _ => h.block k hk⟩
theorem Fr.below {w w' : World} (h : Fr [] w w') : Below w.heap.size w w' := ⟨h.os, h.tape, h.output, h.size, fun k hk => h.block k hk (by simp)⟩
theorem Fr.of_grown {w w' : World} {row : Option Nat} (h : w.grownBy w' row) : Fr row.toList w w' :=
  ⟨h.os, h.tape, h.output, h.size, fun k hk hn => h.block k hk (fun e => hn (by rw [← e]; simp))⟩
theorem Fr.grown {w w' : World} {S : List Nat} (h : Fr S w w') (row : Option Nat) (hS : ∀ x ∈ S, x < w.heap.size → some x = row) : w.grownBy w' row :=
  ⟨h.os, h.tape, h.output, h.size, fun k hk hn => h.block k hk (fun hm => hn (hS k hm hk))⟩
theorem Fr.alloc {S : List Nat} {a w : World} (h : Fr S a w) (o : Obj) : Fr S a (w.alloc o) :=
  h.trans0 (Fr.of_below ((Below.refl _ _).alloc (Nat.le_refl _) o))
theorem Fr.drew {S : List Nat} {a w : World} (h : Fr S a w) : Fr S a w.drew := ⟨h.os, h.tape, h.output, h.size, h.block⟩
theorem Fr.drewN {S : List Nat} {a w : World} (h : Fr S a w) (n : Nat) : Fr S a (w.drewN n) := ⟨h.os, h.tape, h.output, h.size, h.block⟩
theorem Fr.setCell {S : List Nat} {a w : World} (h : Fr S a w) {p : Addr} (hp : p.block < a.heap.size → p.block ∈ S) (u : Value) : Fr S a (w.setCell p u) :=
  ⟨h.os, h.tape, h.output, Nat.le_trans h.size (by simp [World.setCell]), fun k hk hn => (Below.heap_setCell _ _ _ _ (fun e => hn (by rw [e]; exact hp (by omega)))).trans (h.block k hk hn)⟩
theorem Fr.cell {S : List Nat} {w w' : World} (h : Fr S w w') {p : Addr} (hp : p.block < w.heap.size) (hS : p.block ∉ S) : w'.cell? p = w.cell? p := World.cell?_of_block (w := w) (h.block p.block hp hS)
theorem Fr.frozen {S : List Nat} {w w' : World} (h : Fr S w w') {p : Addr} (hp : p.block < w.heap.size) (hS : p.block ∉ S) : w'.frozen? p = w.frozen? p := World.frozen?_of_block (w := w) (h.block p.block hp hS)

/-! ### values -/
def u64s (xs : List Nat) : List Value := xs.map fun (x : Nat) => Value.int .u64 (x : Int)
def i64s (xs : List Int) : List Value := xs.map (Value.int .i64)
theorem u64s_length (xs : List Nat) : (u64s xs).length = xs.length := by simp [u64s]
theorem i64s_length (xs : List Int) : (i64s xs).length = xs.length := by simp [i64s]
theorem u64s_append (xs ys : List Nat) : u64s (xs ++ ys) = u64s xs ++ u64s ys := by simp [u64s]
theorem i64s_append (xs ys : List Int) : i64s (xs ++ ys) = i64s xs ++ i64s ys := by simp [i64s]
theorem u64s_take (xs : List Nat) (k : Nat) : u64s (xs.take k) = (u64s xs).take k := by simp [u64s, List.map_take]
theorem u64s_set (xs : List Nat) (k x : Nat) : (u64s xs).set k (.int .u64 (x : Int)) = u64s (xs.set k x) := by simp [u64s, List.map_set]
theorem i64s_set (xs : List Int) (k : Nat) (x : Int) : (i64s xs).set k (.int .i64 x) = i64s (xs.set k x) := by simp [i64s, List.map_set]
theorem u64s_at {xs : List Nat} {j : Nat} (h : j < xs.length) : (u64s xs)[j]? = some (.int .u64 ((xs.getD j 0 : Nat) : Int)) := by simp [u64s, List.getD, h]
theorem i64s_at {xs : List Int} {j : Nat} (h : j < xs.length) : (i64s xs)[j]? = some (.int .i64 (xs.getD j 0)) := by simp [i64s, List.getD, h]
theorem u64s_one (xs : List Nat) : ∀ u ∈ u64s xs, u.oneCell' = true := by intro u hu; simp [u64s] at hu; obtain ⟨_, _, rfl⟩ := hu; rfl
theorem i64s_one (xs : List Int) : ∀ u ∈ i64s xs, u.oneCell' = true := by intro u hu; simp [i64s] at hu; obtain ⟨_, _, rfl⟩ := hu; rfl

/-- The cells from an address on hold these values, as far as they go. -/
def CellsAt (w : World) (A : Option Addr) (vs : List Value) : Prop :=
  0 < vs.length → ∃ b o, A = some ⟨b, o, none⟩ ∧ ∀ j, j < vs.length → w.cell? ⟨b, o + j, none⟩ = vs[j]?

/-- The block of an address is one of numbers of 64 bits without sign. -/
def TypU (w : World) (A : Option Addr) : Prop := ∀ b o, A = some ⟨b, o, none⟩ → ∃ cs fr, w.heap[b]? = some (.cells cs 58 fr)
/-- None of these blocks is one of such numbers. -/
def NotU (w : World) (S : List Nat) : Prop := ∀ k ∈ S, k < w.heap.size → ∀ cs fr, w.heap[k]? ≠ some (.cells cs 58 fr)
theorem NotU.nil (w : World) : NotU w [] := by simp [NotU]
/-- A slice value that reads as the numbers xs (64 bits without sign). -/
def SlU (w : World) (v : Value) (xs : List Nat) : Prop := ∃ A c, v = .slice A xs.length c ∧ xs.length ≤ c ∧ Bd xs ∧ CellsAt w A (u64s xs) ∧ (0 < xs.length → TypU w A)
/-- .. with sign. -/
def Ri (x : Int) : Prop := -9223372036854775808 ≤ x ∧ x ≤ 9223372036854775807
def SlI (w : World) (v : Value) (xs : List Int) : Prop := ∃ A c, v = .slice A xs.length c ∧ xs.length ≤ c ∧ (∀ x ∈ xs, Ri x) ∧ CellsAt w A (i64s xs)

/-- The block of a big number. -/
def IntBlk (w : World) (k : Nat) : Prop := ∃ n A l c, w.heap[k]? = some (.cells #[.bool n, .slice A l c] 38 (0, 0))
theorem IntBlk.lt {w : World} {k : Nat} (h : IntBlk w k) : k < w.heap.size := by
  obtain ⟨_, _, _, _, h⟩ := h; exact (Array.getElem?_eq_some_iff.1 h).1
def AreInts (w : World) (S : List Nat) : Prop := ∀ k ∈ S, k < w.heap.size → IntBlk w k
theorem AreInts.nil (w : World) : AreInts w [] := by simp [AreInts]
theorem AreInts.one {w : World} {k : Nat} (h : IntBlk w k) : AreInts w [k] := by intro x hx _; simp at hx; subst hx; exact h

/-- Values of one cell that no big number's block holds. -/
def Plain (vs : List Value) : Prop := ∀ u ∈ vs, (∃ k n, u = .int k n) ∨ (∃ p, u = .pointer p)
theorem Plain_u64s (xs : List Nat) : Plain (u64s xs) := by intro u hu; simp [u64s] at hu; obtain ⟨x, _, rfl⟩ := hu; exact .inl ⟨_, _, rfl⟩
theorem Plain_i64s (xs : List Int) : Plain (i64s xs) := by intro u hu; simp [i64s] at hu; obtain ⟨x, _, rfl⟩ := hu; exact .inl ⟨_, _, rfl⟩

theorem IntBlk.cell_not {w : World} {k o : Nat} (h : IntBlk w k) {u : Value} (hc : w.cell? ⟨k, o, none⟩ = some u) : ¬ ((∃ k n, u = .int k n) ∨ (∃ p, u = .pointer p)) := by
  obtain ⟨n, A, l, c, h⟩ := h
  rw [cell_of_row w k o _ _ _ h] at hc
  match o, hc with
  | 0, hc => simp at hc; subst hc; simp
  | 1, hc => simp at hc; subst hc; simp
  | o + 2, hc => simp at hc

theorem CellsAt.keep {w w' : World} {A : Option Addr} {vs : List Value} {S : List Nat} (h : CellsAt w A vs) (hp : Plain vs) (f : Fr S w w') (hS : AreInts w S) : CellsAt w' A vs := by
  intro hl
  obtain ⟨b, o, rfl, hc⟩ := h hl
  refine ⟨b, o, rfl, fun j hj => ?_⟩
  have h0 := hc j hj
  have e : vs[j]? = some vs[j] := by simp [hj]
  rw [e] at h0 ⊢
  have hlt := World.block_lt_of_cell? w _ h0
  rw [f.cell hlt (fun hm => (hS b hm hlt).cell_not h0 (hp _ (List.getElem_mem hj)))]
  exact h0
theorem CellsAt.nil (w : World) (A : Option Addr) : CellsAt w A [] := by intro h; simp at h

theorem AreInts.notU {w : World} {S : List Nat} (h : AreInts w S) : NotU w S := by
  intro k hk hlt cs fr e
  obtain ⟨n, A, l, c, h2⟩ := h k hk hlt
  rw [h2] at e
  simp at e
theorem TypU.keep {w w' : World} {A : Option Addr} {S : List Nat} (h : TypU w A) (f : Fr S w w') (hS : NotU w S) : TypU w' A := by
  intro b o e
  obtain ⟨cs, fr, h2⟩ := h b o e
  have hlt := (Array.getElem?_eq_some_iff.1 h2).1
  exact ⟨cs, fr, (f.block b hlt (fun hm => hS b hm hlt cs fr h2)).trans h2⟩
theorem SlU.keepT {w w' : World} {v : Value} {xs : List Nat} {S : List Nat} (h : SlU w v xs) (f : Fr S w w') (hS : NotU w S) : SlU w' v xs := by
  obtain ⟨A, c, rfl, hc, hb, hx, ht⟩ := h
  refine ⟨A, c, rfl, hc, hb, fun hl => ?_, fun hl => (ht hl).keep f hS⟩
  have hl2 : 0 < xs.length := by rwa [u64s_length] at hl
  obtain ⟨b, o, rfl, hcell⟩ := hx hl
  obtain ⟨cs, fr, h2⟩ := ht hl2 b o rfl
  have hlt := (Array.getElem?_eq_some_iff.1 h2).1
  refine ⟨b, o, rfl, fun j hj => ?_⟩
  rw [f.cell (p := ⟨b, o + j, none⟩) hlt (fun hm => hS b hm hlt cs fr h2)]
  exact hcell j hj
theorem SlU.keep {w w' : World} {v : Value} {xs : List Nat} {S : List Nat} (h : SlU w v xs) (f : Fr S w w') (hS : AreInts w S) : SlU w' v xs := h.keepT f hS.notU
theorem SlU.keep0 {w w' : World} {v : Value} {xs : List Nat} (h : SlU w v xs) (f : Fr [] w w') : SlU w' v xs := h.keep f (AreInts.nil w)
theorem SlI.keep {w w' : World} {v : Value} {xs : List Int} {S : List Nat} (h : SlI w v xs) (f : Fr S w w') (hS : AreInts w S) : SlI w' v xs := by
  obtain ⟨A, c, rfl, hc, hb, hx⟩ := h
  exact ⟨A, c, rfl, hc, hb, hx.keep (Plain_i64s xs) f hS⟩
theorem SlI.keep0 {w w' : World} {v : Value} {xs : List Int} (h : SlI w v xs) (f : Fr [] w w') : SlI w' v xs := h.keep f (AreInts.nil w)
theorem SlU.bd {w : World} {v : Value} {xs : List Nat} (h : SlU w v xs) : Bd xs := by obtain ⟨_, _, _, _, h, _⟩ := h; exact h
theorem SlU_nil (w : World) (A : Option Addr) (c : Nat) : SlU w (.slice A 0 c) [] := ⟨A, c, rfl, Nat.zero_le _, Bd.nil, CellsAt.nil _ _, fun h => by simp at h⟩
theorem SlI_nil (w : World) (A : Option Addr) (c : Nat) : SlI w (.slice A 0 c) [] := ⟨A, c, rfl, Nat.zero_le _, by simp, CellsAt.nil _ _⟩

/-- What the walk wants of a slice: its shape, and each cell. -/
theorem SlU.open_ {w : World} {v : Value} {xs : List Nat} (h : SlU w v xs) : ∃ A c, v = .slice A xs.length c ∧ xs.length ≤ c ∧
    (0 < xs.length → ∃ b o, A = some ⟨b, o, none⟩ ∧ ∀ j, j < xs.length → w.cell? ⟨b, o + j, none⟩ = some (.int .u64 ((xs.getD j 0 : Nat) : Int))) := by
  obtain ⟨A, c, rfl, hc, hb, hx, _⟩ := h
  refine ⟨A, c, rfl, hc, fun hl => ?_⟩
  obtain ⟨b, o, rfl, h⟩ := hx (by rwa [u64s_length])
  exact ⟨b, o, rfl, fun j hj => (h j (by rwa [u64s_length])).trans (u64s_at hj)⟩
theorem SlI.open_ {w : World} {v : Value} {xs : List Int} (h : SlI w v xs) : ∃ A c, v = .slice A xs.length c ∧ xs.length ≤ c ∧
    (0 < xs.length → ∃ b o, A = some ⟨b, o, none⟩ ∧ ∀ j, j < xs.length → w.cell? ⟨b, o + j, none⟩ = some (.int .i64 (xs.getD j 0))) := by
  obtain ⟨A, c, rfl, hc, hb, hx⟩ := h
  refine ⟨A, c, rfl, hc, fun hl => ?_⟩
  obtain ⟨b, o, rfl, h⟩ := hx (by rwa [i64s_length])
  exact ⟨b, o, rfl, fun j hj => (h j (by rwa [i64s_length])).trans (i64s_at hj)⟩
/-- The beginning of a slice. -/
theorem SlU.prefix_ {w : World} {A : Option Addr} {c : Nat} {xs : List Nat} (h : SlU w (.slice A xs.length c) xs) {n : Nat} (hn : n ≤ xs.length) : SlU w (.slice A n c) (xs.take n) := by
  obtain ⟨A', c', e, hc, hb, hx, ht⟩ := h
  simp only [Value.slice.injEq, true_and] at e
  obtain ⟨rfl, rfl⟩ := e
  refine ⟨A, c, by simp [Nat.min_eq_left hn], by simp; omega, hb.take n, fun hl => ?_, fun hl => ht (by rw [List.length_take] at hl; omega)⟩
  rw [u64s_length, List.length_take] at hl
  obtain ⟨b, o, rfl, h⟩ := hx (by rw [u64s_length]; omega)
  refine ⟨b, o, rfl, fun j hj => ?_⟩
  rw [u64s_length, List.length_take] at hj
  rw [h j (by rw [u64s_length]; omega), u64s_take, List.getElem?_take, if_pos (by omega)]

/-! ### rows of the call's own -/
/-- v is a slice at the head of a row that was made from block 'base' on, and reads as xs. -/
def OwU (w : World) (base : Nat) (v : Value) (xs : List Nat) : Prop := Bd xs ∧ w.ownsRow base 58 1 v xs.length (u64s xs)
def OwI (w : World) (base : Nat) (v : Value) (xs : List Int) : Prop := (∀ x ∈ xs, Ri x) ∧ w.ownsRow base 2 1 v xs.length (i64s xs)

theorem own_cells {w : World} {base : Nat} {e : TypeId} {v : Value} {n : Nat} {vs : List Value} (h : w.ownsRow base e 1 v n vs) : ∃ A c, v = .slice A n c ∧ n ≤ c ∧ CellsAt w A vs := by
  have hl := h.1
  rcases h.2 with ⟨rfl, rfl⟩ | ⟨g, cap, cur, rfl, hb, hh, hnc, hcm, hcs, htake⟩
  · refine ⟨none, 0, rfl, Nat.le_refl _, ?_⟩
    intro h0; omega
  · refine ⟨_, cap, rfl, hnc, fun _ => ⟨g, 0, rfl, fun j hj => ?_⟩⟩
    rw [Nat.zero_add, cell_of_row w g j cur e _ hh, ← htake, List.getElem?_take, if_pos (by omega)]
    simp
theorem own_typ {w : World} {base : Nat} {e : TypeId} {size n c : Nat} {A : Option Addr} {vs : List Value} (h : w.ownsRow base e size (.slice A n c) n vs) : ∀ b o, A = some ⟨b, o, none⟩ → ∃ cs fr, w.heap[b]? = some (.cells cs e fr) := by
  intro b o hA
  rcases h.2 with ⟨e1, _⟩ | ⟨g, cap, cur, e1, _, hh, _⟩
  · simp only [Value.slice.injEq] at e1
    rw [e1.1] at hA; simp at hA
  · simp only [Value.slice.injEq] at e1
    rw [e1.1] at hA
    simp only [Option.some.injEq, Addr.mk.injEq] at hA
    obtain ⟨rfl, _⟩ := hA
    exact ⟨_, _, hh⟩
theorem OwU.sl {w : World} {base : Nat} {v : Value} {xs : List Nat} (h : OwU w base v xs) : SlU w v xs := by
  obtain ⟨A, c, rfl, hc, hx⟩ := own_cells h.2
  exact ⟨A, c, rfl, hc, h.1, hx, fun _ => own_typ h.2⟩
theorem OwI.sl {w : World} {base : Nat} {v : Value} {xs : List Int} (h : OwI w base v xs) : SlI w v xs := by
  obtain ⟨A, c, rfl, hc, hx⟩ := own_cells h.2
  exact ⟨A, c, rfl, hc, h.1, hx⟩
theorem own_keep {w w' : World} {base : Nat} {e : TypeId} {size n : Nat} {v : Value} {vs : List Value} {S : List Nat} (h : w.ownsRow base e size v n vs) (f : Fr S w w') (hne : ∀ k, v.ownBlock = some k → k ∉ S) : w'.ownsRow base e size v n vs := by
  refine ⟨h.1, ?_⟩
  rcases h.2 with hn | ⟨g, cap, cur, rfl, hb, hgg, rest⟩
  · exact .inl hn
  · refine .inr ⟨g, cap, cur, rfl, hb, ?_, rest⟩
    rw [f.block g (Array.getElem?_eq_some_iff.1 hgg).1 (hne g rfl)]
    exact hgg
theorem OwU.keep {w w' : World} {base : Nat} {v : Value} {xs : List Nat} {S : List Nat} (h : OwU w base v xs) (f : Fr S w w') (hne : ∀ k, v.ownBlock = some k → k ∉ S) : OwU w' base v xs := ⟨h.1, own_keep h.2 f hne⟩
theorem OwI.keep {w w' : World} {base : Nat} {v : Value} {xs : List Int} {S : List Nat} (h : OwI w base v xs) (f : Fr S w w') (hne : ∀ k, v.ownBlock = some k → k ∉ S) : OwI w' base v xs := ⟨h.1, own_keep h.2 f hne⟩
theorem OwU.keep0 {w w' : World} {base : Nat} {v : Value} {xs : List Nat} (h : OwU w base v xs) (f : Fr [] w w') : OwU w' base v xs := h.keep f (by simp)
theorem OwI.keep0 {w w' : World} {base : Nat} {v : Value} {xs : List Int} (h : OwI w base v xs) (f : Fr [] w w') : OwI w' base v xs := h.keep f (by simp)
theorem own_base {w : World} {base base' : Nat} {e : TypeId} {size n : Nat} {v : Value} {vs : List Value} (h : w.ownsRow base e size v n vs) (hb : base' ≤ base) : w.ownsRow base' e size v n vs := by
  refine ⟨h.1, ?_⟩
  rcases h.2 with hn | ⟨g, cap, cur, rfl, hb', rest⟩
  · exact .inl hn
  · exact .inr ⟨g, cap, cur, rfl, by omega, rest⟩
theorem OwU.base_le {w : World} {base base' : Nat} {v : Value} {xs : List Nat} (h : OwU w base v xs) (hb : base' ≤ base) : OwU w base' v xs := ⟨h.1, own_base h.2 hb⟩
theorem OwI.base_le {w : World} {base base' : Nat} {v : Value} {xs : List Int} (h : OwI w base v xs) (hb : base' ≤ base) : OwI w base' v xs := ⟨h.1, own_base h.2 hb⟩
/-- The beginning of a row of the call's own. -/
theorem OwU.prefix_ {w : World} {base : Nat} {A : Option Addr} {c n : Nat} {xs : List Nat} (h : OwU w base (.slice A xs.length c) xs) (hn : n ≤ xs.length) : OwU w base (.slice A n c) (xs.take n) := by
  refine ⟨h.1.take n, ?_⟩
  have hl : (xs.take n).length = n := by rw [List.length_take]; omega
  rw [hl]
  refine ⟨by simp [u64s_length, hl], ?_⟩
  rcases h.2.2 with ⟨e, h0⟩ | ⟨g, cap, cur, e, hb, hh, hnc, hcm, hcs, htake⟩
  · simp only [Value.slice.injEq] at e
    obtain ⟨rfl, h1, rfl⟩ := e
    left; have : n = 0 := by omega
    subst this; exact ⟨rfl, rfl⟩
  · simp only [Value.slice.injEq, true_and] at e
    obtain ⟨rfl, rfl⟩ := e
    right
    refine ⟨g, c, cur, rfl, hb, hh, by omega, hcm, hcs, ?_⟩
    rw [u64s_take, ← htake, List.take_take]
    congr 1; omega
theorem own_ne_int {w : World} {base : Nat} {v : Value} {xs : List Nat} (h : OwU w base v xs) {k : Nat} (hk : IntBlk w k) : v.ownBlock ≠ some k := by
  rcases h.2.2 with ⟨rfl, _⟩ | ⟨g, cap, cur, rfl, hb, hh, _⟩
  · simp [Value.ownBlock]
  · simp only [Value.ownBlock, ne_eq, Option.some.injEq]
    rintro rfl
    obtain ⟨_, _, _, _, h2⟩ := hk
    rw [h2] at hh
    simp at hh
theorem OwU.lt {w : World} {base : Nat} {v : Value} {xs : List Nat} (h : OwU w base v xs) {k : Nat} (hk : v.ownBlock = some k) : base ≤ k ∧ k < w.heap.size := h.2.lt k hk
theorem OwI.lt {w : World} {base : Nat} {v : Value} {xs : List Int} (h : OwI w base v xs) {k : Nat} (hk : v.ownBlock = some k) : base ≤ k ∧ k < w.heap.size := h.2.lt k hk
theorem OwU_nil (w : World) (base : Nat) : OwU w base (.slice none 0 0) [] := ⟨Bd.nil, World.ownsRow_nil _ _ _ _⟩
theorem OwI_nil (w : World) (base : Nat) : OwI w base (.slice none 0 0) [] := ⟨by simp, World.ownsRow_nil _ _ _ _⟩
/-- A row that is not nil: where it lies, its cells, a store. -/
theorem OwU.at_ {w : World} {base : Nat} {v : Value} {xs : List Nat} (h : OwU w base v xs) (hl : 0 < xs.length) : ∃ g c, v = .slice (some ⟨g, 0, none⟩) xs.length c ∧ base ≤ g ∧ g < w.heap.size ∧ xs.length ≤ c ∧
    (∀ j, j < xs.length → w.cell? ⟨g, j, none⟩ = some (.int .u64 ((xs.getD j 0 : Nat) : Int))) ∧ ∀ j, w.frozen? ⟨g, j, none⟩ = false := by
  rcases h.2.2 with ⟨_, h0⟩ | ⟨g, cap, cur, rfl, hb, hh, hnc, hcm, hcs, htake⟩
  · omega
  · refine ⟨g, cap, rfl, hb, (Array.getElem?_eq_some_iff.1 hh).1, hnc, fun j hj => ?_, fun j => frozen_of_row w g j cur _ hh⟩
    rw [← u64s_at hj, cell_of_row w g j cur _ _ hh, ← htake, List.getElem?_take, if_pos (by omega)]
    simp
theorem OwI.at_ {w : World} {base : Nat} {v : Value} {xs : List Int} (h : OwI w base v xs) (hl : 0 < xs.length) : ∃ g c, v = .slice (some ⟨g, 0, none⟩) xs.length c ∧ base ≤ g ∧ g < w.heap.size ∧ xs.length ≤ c ∧
    (∀ j, j < xs.length → w.cell? ⟨g, j, none⟩ = some (.int .i64 (xs.getD j 0))) ∧ ∀ j, w.frozen? ⟨g, j, none⟩ = false := by
  rcases h.2.2 with ⟨_, h0⟩ | ⟨g, cap, cur, rfl, hb, hh, hnc, hcm, hcs, htake⟩
  · omega
  · refine ⟨g, cap, rfl, hb, (Array.getElem?_eq_some_iff.1 hh).1, hnc, fun j hj => ?_, fun j => frozen_of_row w g j cur _ hh⟩
    rw [← i64s_at hj, cell_of_row w g j cur _ _ hh, ← htake, List.getElem?_take, if_pos (by omega)]
    simp
theorem OwU.store {w : World} {base g c : Nat} {xs : List Nat} (h : OwU w base (.slice (some ⟨g, 0, none⟩) xs.length c) xs) (j x : Nat) (hx : x < BW) : OwU (w.setCell ⟨g, j, none⟩ (.int .u64 (x : Int))) base (.slice (some ⟨g, 0, none⟩) xs.length c) (xs.set j x) := by
  have := (h.2.stored j (.int .u64 (x : Int))).1
  rw [u64s_set] at this
  exact ⟨h.1.set j x hx, by simpa using this⟩
theorem OwI.store {w : World} {base g c : Nat} {xs : List Int} (h : OwI w base (.slice (some ⟨g, 0, none⟩) xs.length c) xs) (j : Nat) (x : Int) (hx : Ri x) : OwI (w.setCell ⟨g, j, none⟩ (.int .i64 x)) base (.slice (some ⟨g, 0, none⟩) xs.length c) (xs.set j x) := by
  have := (h.2.stored j (.int .i64 x)).1
  rw [i64s_set] at this
  refine ⟨fun y hy => ?_, by simpa using this⟩
  rcases List.mem_or_eq_of_mem_set hy with hy | rfl
  · exact h.1 y hy
  · exact hx
theorem madeU (n : Nat) : (madeCells (Value.int .u64 0).cells (n * 1)).toList = u64s (List.replicate n 0) := by
  rw [show (Value.int .u64 0).cells = #[Value.int .u64 0] from rfl, toList_madeCells_one, Nat.mul_one]; simp [u64s]
theorem madeI (n : Nat) : (madeCells (Value.int .i64 0).cells (n * 1)).toList = i64s (List.replicate n 0) := by
  rw [show (Value.int .i64 0).cells = #[Value.int .i64 0] from rfl, toList_madeCells_one, Nat.mul_one]; simp [i64s]

/-! ### short roads -/
theorem SlU.len {w : World} {A : Option Addr} {n c : Nat} {xs : List Nat} (h : SlU w (.slice A n c) xs) : xs.length = n := by
  obtain ⟨_, _, e, _⟩ := h; simp only [Value.slice.injEq] at e; exact e.2.1.symm
theorem SlI.len {w : World} {A : Option Addr} {n c : Nat} {xs : List Int} (h : SlI w (.slice A n c) xs) : xs.length = n := by
  obtain ⟨_, _, e, _⟩ := h; simp only [Value.slice.injEq] at e; exact e.2.1.symm
theorem SlU.cap {w : World} {A : Option Addr} {n c : Nat} {xs : List Nat} (h : SlU w (.slice A n c) xs) : n ≤ c := by
  obtain ⟨_, _, e, hc, _⟩ := h; simp only [Value.slice.injEq] at e; omega
theorem SlU.get {w : World} {A : Option Addr} {n c : Nat} {xs : List Nat} (h : SlU w (.slice A n c) xs) {k : Nat} (hk : k < n) : ∃ b o, A = some ⟨b, o, none⟩ ∧ w.cell? ⟨b, o + k, none⟩ = some (.int .u64 ((xs.getD k 0 : Nat) : Int)) := by
  have hl := h.len
  obtain ⟨A', c', e, hc, hx⟩ := h.open_
  simp only [Value.slice.injEq] at e
  obtain ⟨rfl, _, rfl⟩ := e
  obtain ⟨b, o, rfl, h2⟩ := hx (by omega)
  exact ⟨b, o, rfl, h2 k (by omega)⟩
theorem SlU.get' {w : World} {b o n c : Nat} {xs : List Nat} (h : SlU w (.slice (some ⟨b, o, none⟩) n c) xs) {k : Nat} (hk : k < n) : w.cell? ⟨b, o + k, none⟩ = some (.int .u64 ((xs.getD k 0 : Nat) : Int)) := by
  obtain ⟨b', o', e, h2⟩ := h.get hk
  simp only [Option.some.injEq, Addr.mk.injEq, and_true] at e
  obtain ⟨rfl, rfl⟩ := e; exact h2
theorem SlI.get {w : World} {A : Option Addr} {n c : Nat} {xs : List Int} (h : SlI w (.slice A n c) xs) {k : Nat} (hk : k < n) : ∃ b o, A = some ⟨b, o, none⟩ ∧ w.cell? ⟨b, o + k, none⟩ = some (.int .i64 (xs.getD k 0)) := by
  have hl := h.len
  obtain ⟨A', c', e, hc, hx⟩ := h.open_
  simp only [Value.slice.injEq] at e
  obtain ⟨rfl, _, rfl⟩ := e
  obtain ⟨b, o, rfl, h2⟩ := hx (by omega)
  exact ⟨b, o, rfl, h2 k (by omega)⟩
theorem SlI.get' {w : World} {b o n c : Nat} {xs : List Int} (h : SlI w (.slice (some ⟨b, o, none⟩) n c) xs) {k : Nat} (hk : k < n) : w.cell? ⟨b, o + k, none⟩ = some (.int .i64 (xs.getD k 0)) := by
  obtain ⟨b', o', e, h2⟩ := h.get hk
  simp only [Option.some.injEq, Addr.mk.injEq, and_true] at e
  obtain ⟨rfl, rfl⟩ := e; exact h2
theorem SlI.ri {w : World} {v : Value} {xs : List Int} (h : SlI w v xs) (k : Nat) : Ri (xs.getD k 0) := by
  obtain ⟨_, _, _, _, h, _⟩ := h
  by_cases hk : k < xs.length
  · rw [show xs.getD k 0 = xs[k] by simp [List.getD, hk]]; exact h _ (List.getElem_mem hk)
  · rw [show xs.getD k 0 = 0 by simp [List.getD, Nat.le_of_not_lt hk]]; unfold Ri; omega
/-- A row of n numbers of the call's own, from the head of block g on: full. -/
def RowU (w : World) (base g n : Nat) (zs : List Nat) : Prop := zs.length = n ∧ OwU w base (.slice (some ⟨g, 0, none⟩) n n) zs
theorem RowU.cell {w : World} {base g n : Nat} {zs : List Nat} (h : RowU w base g n zs) {k : Nat} (hk : k < n) : w.cell? ⟨g, k, none⟩ = some (.int .u64 ((zs.getD k 0 : Nat) : Int)) := by
  have h1 := h.2.sl.get' (k := k) hk
  rwa [Nat.zero_add] at h1
theorem RowU.frozen {w : World} {base g n : Nat} {zs : List Nat} (h : RowU w base g n zs) (hn : 0 < n) (k : Nat) : w.frozen? ⟨g, k, none⟩ = false := by
  obtain ⟨rfl, h⟩ := h
  obtain ⟨_, _, e, _, _, _, _, hf⟩ := h.at_ hn
  simp only [Value.slice.injEq, Option.some.injEq, Addr.mk.injEq, and_true, true_and] at e
  obtain ⟨rfl, _⟩ := e; exact hf k
theorem RowU.store {w : World} {base g n : Nat} {zs : List Nat} (h : RowU w base g n zs) (k x : Nat) (hx : x < BW) : RowU (w.setCell ⟨g, k, none⟩ (.int .u64 (x : Int))) base g n (zs.set k x) := by
  obtain ⟨rfl, h⟩ := h
  exact ⟨by simp, by simpa using h.store k x hx⟩
theorem RowU.keep {w w' : World} {base g n : Nat} {zs : List Nat} {S : List Nat} (h : RowU w base g n zs) (f : Fr S w w') (hg : g ∉ S) : RowU w' base g n zs :=
  ⟨h.1, h.2.keep f (by intro k hk; simp [Value.ownBlock] at hk; subst hk; exact hg)⟩
theorem RowU.lt {w : World} {base g n : Nat} {zs : List Nat} (h : RowU w base g n zs) : base ≤ g ∧ g < w.heap.size := h.2.lt rfl
def RowI (w : World) (base g n : Nat) (zs : List Int) : Prop := zs.length = n ∧ OwI w base (.slice (some ⟨g, 0, none⟩) n n) zs
theorem RowI.cell {w : World} {base g n : Nat} {zs : List Int} (h : RowI w base g n zs) {k : Nat} (hk : k < n) : w.cell? ⟨g, k, none⟩ = some (.int .i64 (zs.getD k 0)) := by
  have h1 := h.2.sl.get' (k := k) hk
  rwa [Nat.zero_add] at h1
theorem RowI.frozen {w : World} {base g n : Nat} {zs : List Int} (h : RowI w base g n zs) (hn : 0 < n) (k : Nat) : w.frozen? ⟨g, k, none⟩ = false := by
  obtain ⟨rfl, h⟩ := h
  obtain ⟨_, _, e, _, _, _, _, hf⟩ := h.at_ hn
  simp only [Value.slice.injEq, Option.some.injEq, Addr.mk.injEq, and_true, true_and] at e
  obtain ⟨rfl, _⟩ := e; exact hf k
theorem RowI.store {w : World} {base g n : Nat} {zs : List Int} (h : RowI w base g n zs) (k : Nat) (x : Int) (hx : Ri x) : RowI (w.setCell ⟨g, k, none⟩ (.int .i64 x)) base g n (zs.set k x) := by
  obtain ⟨rfl, h⟩ := h
  exact ⟨by simp, by simpa using h.store k x hx⟩
theorem RowI.keep {w w' : World} {base g n : Nat} {zs : List Int} {S : List Nat} (h : RowI w base g n zs) (f : Fr S w w') (hg : g ∉ S) : RowI w' base g n zs :=
  ⟨h.1, h.2.keep f (by intro k hk; simp [Value.ownBlock] at hk; subst hk; exact hg)⟩
theorem RowI.lt {w : World} {base g n : Nat} {zs : List Int} (h : RowI w base g n zs) : base ≤ g ∧ g < w.heap.size := h.2.lt rfl

/-! ### big numbers -/
/-- Block b is a big number that reads as z. -/
def BigAt (w : World) (b : Nat) (z : Int) : Prop := ∃ A n c, w.heap[b]? = some (.cells #[.bool (decide (z < 0)), .slice A n c] 38 (0, 0)) ∧ SlU w (.slice A n c) (limbs z.natAbs)
theorem BigAt.blk {w : World} {b : Nat} {z : Int} (h : BigAt w b z) : IntBlk w b := by obtain ⟨A, n, c, h, _⟩ := h; exact ⟨_, _, _, _, h⟩
theorem BigAt.lt {w : World} {b : Nat} {z : Int} (h : BigAt w b z) : b < w.heap.size := h.blk.lt
theorem BigAt.ints {w : World} {b : Nat} {z : Int} (h : BigAt w b z) : AreInts w [b] := AreInts.one h.blk
theorem BigAt.keep {w w' : World} {b : Nat} {z : Int} {S : List Nat} (h : BigAt w b z) (f : Fr S w w') (hS : AreInts w S) (hb : b ∉ S) : BigAt w' b z := by
  have hlt := h.lt
  obtain ⟨A, n, c, h, hs⟩ := h
  exact ⟨A, n, c, (f.block b hlt hb).trans h, hs.keep f hS⟩
theorem BigAt.keepT {w w' : World} {b : Nat} {z : Int} {S : List Nat} (h : BigAt w b z) (f : Fr S w w') (hS : NotU w S) (hb : b ∉ S) : BigAt w' b z := by
  have hlt := h.lt
  obtain ⟨A, n, c, h, hs⟩ := h
  exact ⟨A, n, c, (f.block b hlt hb).trans h, hs.keepT f hS⟩
theorem BigAt.keep0 {w w' : World} {b : Nat} {z : Int} (h : BigAt w b z) (f : Fr [] w w') : BigAt w' b z := h.keep f (AreInts.nil w) (by simp)
theorem BigAt.keep1 {w w' : World} {b g : Nat} {z y : Int} (h : BigAt w b z) (f : Fr [g] w w') (hg : BigAt w g y) (hb : b ≠ g) : BigAt w' b z := h.keep f hg.ints (by simpa using hb)
theorem BigAt.cells {w : World} {b : Nat} {z : Int} (h : BigAt w b z) : ∃ A n c, w.cell? ⟨b, 0, none⟩ = some (.bool (decide (z < 0))) ∧ w.cell? ⟨b, 1, none⟩ = some (.slice A n c) ∧
    w.frozen? ⟨b, 0, none⟩ = false ∧ w.frozen? ⟨b, 1, none⟩ = false ∧ SlU w (.slice A n c) (limbs z.natAbs) := by
  obtain ⟨A, n, c, h, hs⟩ := h
  exact ⟨A, n, c, cell_of_row w b 0 _ _ _ h, cell_of_row w b 1 _ _ _ h, frozen_of_row w b 0 _ _ h, frozen_of_row w b 1 _ _ h, hs⟩
theorem BigAt_new (w : World) : BigAt (w.alloc (.cells #[.bool false, .slice none 0 0] 38)) w.heap.size 0 :=
  ⟨none, 0, 0, heap_alloc_new w _, by rw [show (0 : Int).natAbs = 0 from rfl, limbs_zero]; exact SlU_nil _ _ _⟩
theorem IntBlk.keep {w w' : World} {k : Nat} {S : List Nat} (h : IntBlk w k) (f : Fr S w w') (hk : k ∉ S) : IntBlk w' k := by
  have hlt := h.lt
  obtain ⟨n, A, l, c, h⟩ := h
  exact ⟨n, A, l, c, (f.block k hlt hk).trans h⟩
/-- Behind both stores of 'put'. -/
theorem BigAt_put {w : World} {b : Nat} (hb : IntBlk w b) {A : Option Addr} {n c : Nat} {z : Int} {s : Bool} (hs : SlU w (.slice A n c) (limbs z.natAbs)) (hn : s = decide (z < 0)) :
    BigAt ((w.setCell ⟨b, 1, none⟩ (.slice A n c)).setCell ⟨b, 0, none⟩ (.bool s)) b z := by
  have hi := AreInts.one hb
  have f : Fr [b] w ((w.setCell ⟨b, 1, none⟩ (.slice A n c)).setCell ⟨b, 0, none⟩ (.bool s)) := ((Fr.refl [b] w).setCell (by simp) _).setCell (by simp) _
  refine ⟨A, n, c, ?_, hs.keep f hi⟩
  obtain ⟨n0, A0, l0, c0, hh⟩ := hb
  have h1 := heap_setCell_same w b 1 _ _ (.slice A n c) hh
  have h2 := heap_setCell_same _ b 0 _ _ (.bool s) h1
  rw [h2, hn]
  rfl

end Go.Proofs.YtedoeadhbcjjgaaDoor

/- math/bits at this seat's numbers, in terms of plain functions on natural numbers. -/
namespace Go.Proofs.YtedoeadhbcjjgaaDoor
open Go.RowKit

def addS (x y c : Nat) : Nat := (x + y + c) % BW
def addC (x y c : Nat) : Nat := (x + y + c) / BW
def subS (x y b : Nat) : Nat := (x + BW - y - b) % BW
def subB (x y b : Nat) : Nat := if x < y + b then 1 else 0
def mulH (x y : Nat) : Nat := x * y / BW
def mulL (x y : Nat) : Nat := x * y % BW

theorem addS_lt (x y c : Nat) : addS x y c < BW := Nat.mod_lt _ BW_pos
theorem subS_lt (x y c : Nat) : subS x y c < BW := Nat.mod_lt _ BW_pos
theorem mulL_lt (x y : Nat) : mulL x y < BW := Nat.mod_lt _ BW_pos
theorem mulH_lt {x y : Nat} (hx : x < BW) (hy : y < BW) : mulH x y < BW := by
  unfold mulH; rw [Nat.div_lt_iff_lt_mul BW_pos]
  exact Nat.mul_lt_mul_of_le_of_lt (Nat.le_of_lt hx) hy (by have := BW_pos; omega)
theorem add_eq (x y c : Nat) : addS x y c + BW * addC x y c = x + y + c := Nat.mod_add_div _ _
theorem mul_eq (x y : Nat) : mulL x y + BW * mulH x y = x * y := Nat.mod_add_div _ _
theorem addC_le {x y c : Nat} (hx : x < BW) (hy : y < BW) (hc : c ≤ 1) : addC x y c ≤ 1 := by
  unfold addC
  have := (Nat.div_lt_iff_lt_mul BW_pos (x := x + y + c) (y := 2)).2 (by omega)
  omega
theorem subB_le (x y b : Nat) : subB x y b ≤ 1 := by unfold subB; split <;> omega
theorem sub_eq {x y b : Nat} (hx : x < BW) (hy : y < BW) (hb : b ≤ 1) : subS x y b + y + b = x + BW * subB x y b := by
  unfold subS subB
  split
  · rename_i h; rw [Nat.mod_eq_of_lt (by omega)]; omega
  · rename_i h
    rw [show x + BW - y - b = (x - y - b) + BW by omega, Nat.add_mod_right, Nat.mod_eq_of_lt (by omega)]; omega
theorem addC_lt {x y c : Nat} (h : addC x y c ≤ 1) : addC x y c < BW := by have := BW_two; omega

theorem add64_run (x y c : Nat) (hc : c ≤ 1) (w : World) :
    (callFunc 77 #[.int .u64 (x : Int), .int .u64 (y : Int), .int .u64 (c : Int)]).run Tryd.prog w =
      .ok (.value (.tuple #[.int .u64 ((addS x y c : Nat) : Int), .int .u64 ((addC x y c : Nat) : Int)])) w := by
  rw [run_callFunc_extern Tryd.func77 (by kernel_rfl) (by kernel_rfl) (by kernel_rfl) (e := add64Entry) (by kernel_rfl), run_add64 x y c (by omega) (by omega) (by omega) (by omega)]
  simp only [Result.andThen, addS, addC, BW_eq]
  congr 5 <;> omega
theorem sub64_run (x y b : Nat) (hb : b ≤ 1) (w : World) :
    (callFunc 79 #[.int .u64 (x : Int), .int .u64 (y : Int), .int .u64 (b : Int)]).run Tryd.prog w =
      .ok (.value (.tuple #[.int .u64 ((subS x y b : Nat) : Int), .int .u64 ((subB x y b : Nat) : Int)])) w := by
  rw [run_callFunc_extern Tryd.func79 (by kernel_rfl) (by kernel_rfl) (by kernel_rfl) (e := sub64Entry) (by kernel_rfl), run_sub64 x y b hb]
  simp only [Result.andThen, subS, subB, BW_eq]
theorem mul64_any (x y : Nat) (hx : x < BW) (hy : y < BW) (w : World) :
    Calls Tryd.prog 76 #[.int .u64 (x : Int), .int .u64 (y : Int)] w fun e w' => e = .returned (.tuple #[.int .u64 ((mulH x y : Nat) : Int), .int .u64 ((mulL x y : Nat) : Int)]) ∧ w = w' :=
  (Tryd.bits_Mul64 x y hx hy w).mono fun _ _ ⟨h, h'⟩ => ⟨h, h'.symm⟩

/-- x times y, and two limbs more: it goes into two limbs. -/
theorem mac_facts {x y z cy : Nat} (hx : x < BW) (hy : y < BW) (hz : z < BW) (hcy : cy < BW) :
    mulH x y + addC (mulL x y) z 0 + addC (addS (mulL x y) z 0) cy 0 < BW ∧ addS (addS (mulL x y) z 0) cy 0 + BW * (mulH x y + addC (mulL x y) z 0 + addC (addS (mulL x y) z 0) cy 0) = x * y + z + cy := by
  have h1 := mul_eq x y
  have h2 := add_eq (mulL x y) z 0
  have h3 := add_eq (addS (mulL x y) z 0) cy 0
  have e : addS (addS (mulL x y) z 0) cy 0 + BW * (mulH x y + addC (mulL x y) z 0 + addC (addS (mulL x y) z 0) cy 0) = x * y + z + cy := by
    rw [Nat.mul_add, Nat.mul_add]; omega
  refine ⟨?_, e⟩
  have hb : x * y ≤ (BW - 1) * (BW - 1) := Nat.mul_le_mul (by omega) (by omega)
  have hb2 : (BW - 1) * (BW - 1) + 2 * (BW - 1) + 1 = BW * BW := by rw [BW_eq]
  have h4 : BW * (mulH x y + addC (mulL x y) z 0 + addC (addS (mulL x y) z 0) cy 0) < BW * BW := by omega
  exact Nat.lt_of_mul_lt_mul_left h4

/-- How many bits a number has. -/
def bitLen (n : Nat) : Nat := Lib.bitLen n
def lz (x : Nat) : Nat := 64 - bitLen x
theorem lz64_any (x : Nat) (hx : x < BW) (w : World) :
    Calls Tryd.prog 72 #[.int .u64 (x : Int)] w fun e w' => e = .returned (.int .i64 (64 - (bitLen x : Int))) ∧ w = w' :=
  (Tryd.bits_LeadingZeros64 x w (by omega) (by rw [BW_eq] at hx; omega)).mono fun _ _ ⟨h, h'⟩ => ⟨by rw [h, Int.toNat_natCast]; rfl, h'.symm⟩

end Go.Proofs.YtedoeadhbcjjgaaDoor
