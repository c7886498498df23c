/- Part of the proof of a law of customhouselaw26: the texts Bas A2 A3. -/
import Derived.WalkKit
import Derived.WalkSpells
import Derived.WalkLawsBesides
import Derived.Lib.Hide
import Derived.Maps.AppendAt
import Derived.Test.YtfajbcjcigajfaaGreatDoorProg
/- The words that the walks of this seat use: which memory stays, how slices of integers, facts, nodes and formulas read. -/
namespace Go.Proofs.YtfajbcjcigajfaaGreatDoor
open Go.RowKit

/-- The longest slice that is read. -/
def N44 : Nat := 17592186044416
theorem n44 {n : Nat} (h : n ≤ N44) : n ≤ 17592186044416 := h

/-- Element types of blocks that are written after they were handed on: the bool 'full', nodes, the makers. -/
def mutT (t : Nat) : Bool := t == 4 || t == 55 || t == 67 || t == 69

/-- A block that stays as it is. -/
def Imm (B0 : Nat) (w : World) (b : Nat) : Prop := b < B0 ∨ ∃ c t fr, w.heap[b]? = some (.cells c t fr) ∧ mutT t = false

/-- Only blocks from B0 on that are maps, or of an element type that is written, have turned. -/
structure Mut (B0 : Nat) (w w' : World) : Prop where
  os : w'.os = w.os
  tape : w'.tape = w.tape
  output : w'.output = w.output
  size : w.heap.size ≤ w'.heap.size
  block : ∀ k, k < w.heap.size → Imm B0 w k → w'.heap[k]? = w.heap[k]?
/-- The blocks of S hold what they held. -/
def Agree (S : Nat → Prop) (w w' : World) : Prop := ∀ b, b < w.heap.size → S b → w'.heap[b]? = w.heap[b]?
/-- S's blocks, as far as they are there, are S2's. -/
def Sub (S S2 : Nat → Prop) (w : World) : Prop := ∀ b, b < w.heap.size → S b → S2 b

theorem Imm.mut {B0 : Nat} {w w' : World} {k : Nat} (h : Imm B0 w k) (hk : k < w.heap.size) (m : Mut B0 w w') : Imm B0 w' k := by
  have e := m.block k hk h
  rcases h with h | ⟨c, t, fr, h1, h2⟩
  · exact .inl h
  · exact .inr ⟨c, t, fr, e.trans h1, h2⟩
theorem Mut.refl (B0 : Nat) (w : World) : Mut B0 w w := ⟨rfl, rfl, rfl, Nat.le_refl _, fun _ _ _ => rfl⟩
theorem Mut.trans {B0 : Nat} {a b c : World} (h : Mut B0 a b) (k : Mut B0 b c) : Mut B0 a c :=
  ⟨k.os.trans h.os, k.tape.trans h.tape, k.output.trans h.output, Nat.le_trans h.size k.size, fun i hi hm => (k.block i (Nat.lt_of_lt_of_le hi h.size) (hm.mut hi h)).trans (h.block i hi hm)⟩
theorem Mut.of_below {B0 : Nat} {w w' : World} (h : Below w.heap.size w w') : Mut B0 w w' := ⟨h.os, h.tape, h.output, h.size, fun k hk _ => h.block k hk⟩
theorem Mut.below {B0 : Nat} {w w' : World} (h : Mut B0 w w') (hB : B0 ≤ w.heap.size) : Below B0 w w' := ⟨h.os, h.tape, h.output, h.size, fun k hk => h.block k (by omega) (.inl hk)⟩
theorem Mut.agree {B0 : Nat} {w w' : World} (h : Mut B0 w w') : Agree (Imm B0 w) w w' := h.block
theorem Agree.of_below {S : Nat → Prop} {w w' : World} (h : Below w.heap.size w w') : Agree S w w' := fun b hb _ => h.block b hb
theorem bthen {w w1 w2 : World} (h : Below w.heap.size w w1) (k : Below w1.heap.size w1 w2) : Below w.heap.size w w2 :=
  h.trans (k.mono h.size)
theorem bcell {W w1 : World} (hb : Below W.heap.size W w1) : (∀ b o, b < W.heap.size → w1.cell? ⟨b, o, none⟩ = W.cell? ⟨b, o, none⟩) ∧ (∀ b o, b < W.heap.size → w1.frozen? ⟨b, o, none⟩ = W.frozen? ⟨b, o, none⟩) :=
  ⟨fun b o h => hb.cell (p := ⟨b, o, none⟩) h, fun b o h => hb.frozen (p := ⟨b, o, none⟩) h⟩
theorem cell_lt {w : World} {a : Addr} {v : Value} (h : w.cell? a = some v) : a.block < w.heap.size := World.block_lt_of_cell? w a h
theorem add_plain (g j : Nat) : (⟨g, 0, none⟩ : Addr).add j = ⟨g, j, none⟩ := by unfold Addr.add; split <;> simp_all

/-- Of what is there only the blocks of T have turned. -/
structure Chg (T : Nat → Prop) (w w' : World) : Prop where
  os : w'.os = w.os
  tape : w'.tape = w.tape
  output : w'.output = w.output
  size : w.heap.size ≤ w'.heap.size
  block : ∀ k, k < w.heap.size → ¬ T k → w'.heap[k]? = w.heap[k]?
section
variable {T T2 : Nat → Prop} {a b c : World}
theorem Chg.refl (T : Nat → Prop) (w : World) : Chg T w w := ⟨rfl, rfl, rfl, Nat.le_refl _, fun _ _ _ => rfl⟩
theorem Chg.of_below (h : Below a.heap.size a b) : Chg T a b := ⟨h.os, h.tape, h.output, h.size, fun k hk _ => h.block k hk⟩
theorem Chg.trans (h : Chg T a b) (k : Chg T2 b c) (hT : ∀ i, i < a.heap.size → T2 i → T i) : Chg T a c :=
  ⟨k.os.trans h.os, k.tape.trans h.tape, k.output.trans h.output, Nat.le_trans h.size k.size, fun i hi hm => (k.block i (Nat.lt_of_lt_of_le hi h.size) (fun h2 => hm (hT i hi h2))).trans (h.block i hi hm)⟩
theorem Chg.alloc (h : Chg T a b) (o : Obj) : Chg T a (b.alloc o) := h.trans (Chg.of_below (T := fun _ => False) ((Below.refl _ _).alloc (Nat.le_refl _) o)) (fun _ _ h => h.elim)
theorem Chg.drew (h : Chg T a b) : Chg T a b.drew := ⟨h.os, h.tape, h.output, h.size, h.block⟩
theorem Chg.drewN (h : Chg T a b) (n : Nat) : Chg T a (b.drewN n) := ⟨h.os, h.tape, h.output, h.size, h.block⟩
theorem Chg.setCell (h : Chg T a b) {p : Addr} (hp : p.block < a.heap.size → T p.block) (u : Value) : Chg T a (b.setCell p u) :=
  ⟨h.os, h.tape, h.output, by simpa [World.setCell] using h.size, fun k hk ht => (Below.heap_setCell b p u k (fun e => ht (by subst e; exact hp hk))).trans (h.block k hk ht)⟩
theorem Chg.grown (h : Chg T a b) {row : Option Nat} (g : b.grownBy c row) (hr : ∀ i, row = some i → i < a.heap.size → T i) : Chg T a c :=
  h.trans (T2 := fun i => some i = row) ⟨g.os, g.tape, g.output, g.size, fun k hk hn => g.block k hk hn⟩ (fun i hi e => hr i e.symm hi)
theorem Chg.then (h : Chg T a b) (k : Below b.heap.size b c) : Chg T a c := h.trans (Chg.of_below (T := fun _ => False) k) (fun _ _ h => h.elim)
theorem Chg.below (h : Chg T a b) (hT : ∀ i, i < a.heap.size → ¬ T i) : Below a.heap.size a b := ⟨h.os, h.tape, h.output, h.size, fun k hk => h.block k hk (hT k hk)⟩
theorem Chg.agree {S : Nat → Prop} (h : Chg T a b) (hS : ∀ i, i < a.heap.size → S i → ¬ T i) : Agree S a b := fun i hi hs => h.block i hi (hS i hi hs)
theorem Chg.mut {B0 : Nat} (h : Chg T a b) (hT : ∀ i, i < a.heap.size → T i → ¬ Imm B0 a i) : Mut B0 a b := ⟨h.os, h.tape, h.output, h.size, fun k hk hi => h.block k hk (fun ht => hT k hk ht hi)⟩
end
/-! ### a block that is known whole -/
section
variable {w : World} {B t : Nat} {a b c d e : Value}
theorem one_ (h : w.heap[B]? = some (.cells #[a] t (0, 0))) : w.cell? ⟨B, 0, none⟩ = some a ∧ w.frozen? ⟨B, 0, none⟩ = false := ⟨by simp [World.cell?, h], by simp [World.frozen?, h]⟩
theorem two_ (h : w.heap[B]? = some (.cells #[a, b] t (0, 0))) : w.cell? ⟨B, 0, none⟩ = some a ∧ w.cell? ⟨B, 1, none⟩ = some b ∧ ∀ i, w.frozen? ⟨B, i, none⟩ = false := ⟨by simp [World.cell?, h], by simp [World.cell?, h], fun i => by simp [World.frozen?, h]⟩
theorem four_ (h : w.heap[B]? = some (.cells #[a, b, c, d] t (0, 0))) : w.cell? ⟨B, 0, none⟩ = some a ∧ w.cell? ⟨B, 1, none⟩ = some b ∧ w.cell? ⟨B, 2, none⟩ = some c ∧ w.cell? ⟨B, 3, none⟩ = some d ∧ ∀ i, w.frozen? ⟨B, i, none⟩ = false := ⟨by simp [World.cell?, h], by simp [World.cell?, h], by simp [World.cell?, h], by simp [World.cell?, h], fun i => by simp [World.frozen?, h]⟩
theorem five_ (h : w.heap[B]? = some (.cells #[a, b, c, d, e] t (0, 0))) : w.cell? ⟨B, 0, none⟩ = some a ∧ w.cell? ⟨B, 1, none⟩ = some b ∧ w.cell? ⟨B, 2, none⟩ = some c ∧ w.cell? ⟨B, 3, none⟩ = some d ∧ w.cell? ⟨B, 4, none⟩ = some e ∧ ∀ i, w.frozen? ⟨B, i, none⟩ = false := ⟨by simp [World.cell?, h], by simp [World.cell?, h], by simp [World.cell?, h], by simp [World.cell?, h], by simp [World.cell?, h], fun i => by simp [World.frozen?, h]⟩
end
theorem new_ (w : World) (o : Obj) : (w.alloc o).heap[w.heap.size]? = some o := heap_alloc_new w o
theorem old_ {w : World} {o : Obj} {k : Nat} {x : Obj} (h : w.heap[k]? = some x) : (w.alloc o).heap[k]? = some x := (heap_alloc_old w o (by exact (Array.getElem?_eq_some_iff.1 h).1)).trans h
theorem blt_ {w : World} {k : Nat} {x : Obj} (h : w.heap[k]? = some x) : k < w.heap.size := (Array.getElem?_eq_some_iff.1 h).1
theorem below_ {w w1 : World} (hb : Below w.heap.size w w1) {k : Nat} {x : Obj} (h : w.heap[k]? = some x) : w1.heap[k]? = some x := (hb.block k (blt_ h)).trans h
/-! ### rows -/
section
variable {α : Type} {S S2 : Nat → Prop} {w w' : World} {sz : Nat} {R R' : α → List Value → Prop} {A : Option Addr} {v : Value} {xs : List α}
/-- The elements xs of sz cells each lie from A on, in a block of S. -/
def RowAt (S : Nat → Prop) (w : World) (sz : Nat) (R : α → List Value → Prop) (A : Option Addr) (xs : List α) : Prop :=
  xs.length ≤ N44 ∧ (0 < xs.length → ∃ b o, A = some ⟨b, o, none⟩ ∧ S b ∧ b < w.heap.size ∧ ∀ j x, xs[j]? = some x → ∃ cs, cs.length = sz ∧ R x cs ∧ ∀ i v, cs[i]? = some v → w.cell? ⟨b, o + j * sz + i, none⟩ = some v)
def SliceAt (S : Nat → Prop) (w : World) (sz : Nat) (R : α → List Value → Prop) (v : Value) (xs : List α) : Prop :=
  ∃ A c, v = .slice A xs.length c ∧ xs.length ≤ c ∧ RowAt S w sz R A xs
theorem RowAt.keep (h : RowAt S w sz R A xs) (hw : w.heap.size ≤ w'.heap.size) (m : Agree S w w') (hS : Sub S S2 w) (hR : ∀ x ∈ xs, ∀ cs, R x cs → R' x cs) : RowAt S2 w' sz R' A xs := by
  refine ⟨h.1, fun hp => ?_⟩
  obtain ⟨b, o, rfl, hi, hb, hc⟩ := h.2 hp
  refine ⟨b, o, rfl, hS b hb hi, Nat.lt_of_lt_of_le hb hw, fun j x hx => ?_⟩
  obtain ⟨cs, hl, h2, h3⟩ := hc j x hx
  exact ⟨cs, hl, hR x (List.mem_of_getElem? hx) cs h2, fun i v hv => (World.cell?_of_block (a := ⟨b, o + j * sz + i, none⟩) (m b hb hi)).trans (h3 i v hv)⟩
theorem SliceAt.keep (h : SliceAt S w sz R v xs) (hw : w.heap.size ≤ w'.heap.size) (m : Agree S w w') (hS : Sub S S2 w) (hR : ∀ x ∈ xs, ∀ cs, R x cs → R' x cs) : SliceAt S2 w' sz R' v xs := by
  obtain ⟨A, c, rfl, hc, hr⟩ := h
  exact ⟨A, c, rfl, hc, hr.keep hw m hS hR⟩
theorem SliceAt.nil (S : Nat → Prop) (w : World) (sz : Nat) (R : α → List Value → Prop) : SliceAt S w sz R (.slice none 0 0) [] := ⟨none, 0, rfl, Nat.le_refl _, Nat.zero_le _, fun h => absurd h (Nat.lt_irrefl 0)⟩
/-- A row of one's own that is read from now on. -/
theorem SliceAt.of_own {base : Nat} {e : TypeId} {cells : List Value} (h : w.ownsRow base e sz v xs.length cells) (hS : ∀ g c, v.ownBlock = some g → w.heap[g]? = some (.cells c e (0, 0)) → S g)
    (hl : xs.length ≤ N44) (hR : ∀ j x, xs[j]? = some x → ∃ cs, cs.length = sz ∧ R x cs ∧ ∀ i u, cs[i]? = some u → cells[j * sz + i]? = some u) : SliceAt S w sz R v xs := by
  rcases h.2 with ⟨rfl, hn⟩ | ⟨g, cap, cur, rfl, hb, hh, hc, hm, hsz, ht⟩
  · rw [List.eq_nil_of_length_eq_zero hn]; exact SliceAt.nil ..
  · refine ⟨_, cap, rfl, hc, hl, fun _ => ⟨g, 0, rfl, hS g cur rfl hh, (Array.getElem?_eq_some_iff.1 hh).1, fun j x hx => ?_⟩⟩
    obtain ⟨cs, h1, h2, h3⟩ := hR j x hx
    refine ⟨cs, h1, h2, fun i u hu => ?_⟩
    have := h.cells (g := g) rfl (j * sz + i) u (h3 i u hu)
    rw [add_plain] at this
    simpa using this
/-- A block known whole, read from its head. -/
theorem SliceAt.of_block {B : Nat} {cur : Array Value} {e : TypeId} {fr : Nat × Nat} {c : Nat} (h : w.heap[B]? = some (.cells cur e fr)) (hS : S B) (hl : xs.length ≤ N44) (hc : xs.length ≤ c)
    (hR : ∀ j x, xs[j]? = some x → ∃ cs, cs.length = sz ∧ R x cs ∧ ∀ i u, cs[i]? = some u → cur[j * sz + i]? = some u) : SliceAt S w sz R (.slice (some ⟨B, 0, none⟩) xs.length c) xs := by
  refine ⟨_, c, rfl, hc, hl, fun _ => ⟨B, 0, rfl, hS, blt_ h, fun j x hx => ?_⟩⟩
  obtain ⟨cs, h1, h2, h3⟩ := hR j x hx
  exact ⟨cs, h1, h2, fun i u hu => by simpa [World.cell?, h] using h3 i u hu⟩
theorem SliceAt.of_one {B : Nat} {cs : List Value} {e : TypeId} {fr : Nat × Nat} {x : α} (h : w.heap[B]? = some (.cells cs.toArray e fr)) (hS : S B) (hs : cs.length = sz) (hR : R x cs) : SliceAt S w sz R (.slice (some ⟨B, 0, none⟩) 1 1) [x] :=
  SliceAt.of_block (xs := [x]) h hS (by unfold N44; simp) (Nat.le_refl _) (fun j y hy => by
    obtain ⟨rfl, rfl⟩ : j = 0 ∧ x = y := by
      cases j with
      | zero => exact ⟨rfl, by simpa using hy⟩
      | succ j => simp at hy
    exact ⟨cs, hs, hR, fun i u hu => by simpa using hu⟩)
theorem SliceAt.len (h : SliceAt S w sz R v xs) : xs.length ≤ N44 := h.choose_spec.choose_spec.2.2.1
end

/-! ### rows of one's own -/
section
variable {α : Type} {R R' : α → List Value → Prop} {sz : Nat} {cells cs : List Value} {xs : List α} {x : α}
/-- What the cells of a row say, element by element. -/
def Rows_ (R : α → List Value → Prop) (sz : Nat) (cells : List Value) (xs : List α) : Prop :=
  cells.length = xs.length * sz ∧ ∀ j x, xs[j]? = some x → ∃ cs, cs.length = sz ∧ R x cs ∧ ∀ i u, cs[i]? = some u → cells[j * sz + i]? = some u
theorem Rows_.nil (R : α → List Value → Prop) (sz : Nat) : Rows_ R sz [] [] := ⟨by simp, fun j x h => by simp at h⟩
theorem Rows_.imp (h : Rows_ R sz cells xs) (hR : ∀ x ∈ xs, ∀ cs, R x cs → R' x cs) : Rows_ R' sz cells xs := ⟨h.1, fun j x hx => by
  obtain ⟨cs, h1, h2, h3⟩ := h.2 j x hx
  exact ⟨cs, h1, hR x (List.mem_of_getElem? hx) cs h2, h3⟩⟩
theorem Rows_.snoc (h : Rows_ R sz cells xs) (hc : cs.length = sz) (hx : R x cs) : Rows_ R sz (cells ++ cs) (xs ++ [x]) := by
  refine ⟨by simp [h.1, hc, Nat.add_mul], fun j y hy => ?_⟩
  rcases Nat.lt_or_ge j xs.length with hj | hj
  · rw [List.getElem?_append_left hj] at hy
    obtain ⟨c2, h1, h2, h3⟩ := h.2 j y hy
    refine ⟨c2, h1, h2, fun i u hu => ?_⟩
    have hi : i < c2.length := (List.getElem?_eq_some_iff.1 hu).1
    have : j * sz + sz ≤ cells.length := by rw [h.1, ← Nat.succ_mul]; exact Nat.mul_le_mul_right _ hj
    rw [List.getElem?_append_left (by omega)]
    exact h3 i u hu
  · have hj' : j = xs.length := by
      have := (List.getElem?_eq_some_iff.1 hy).1
      simp at this; omega
    subst hj'
    have : x = y := by simpa using hy
    subst this
    refine ⟨cs, hc, hx, fun i u hu => ?_⟩
    rw [List.getElem?_append_right (by rw [h.1]; omega), h.1]
    simpa using hu
/-- v is a row of one's own of the elements xs. -/
def OwnAt (w : World) (base : Nat) (e : TypeId) (sz : Nat) (R : α → List Value → Prop) (v : Value) (xs : List α) : Prop :=
  ∃ cells, w.ownsRow base e sz v xs.length cells ∧ Rows_ R sz cells xs
theorem OwnAt.nil (w : World) (base : Nat) (e : TypeId) (sz : Nat) (R : α → List Value → Prop) : OwnAt w base e sz R (.slice none 0 0) [] := ⟨[], World.ownsRow_nil _ _ _ _, Rows_.nil _ _⟩
theorem OwnAt.shape {w : World} {base : Nat} {e : TypeId} {v : Value} (h : OwnAt w base e sz R v xs) : ∃ A c, v = .slice A xs.length c := by
  obtain ⟨cells, h, _⟩ := h
  rcases h.2 with ⟨rfl, h0⟩ | ⟨g, cap, cur, rfl, _⟩
  · exact ⟨none, 0, by rw [h0]⟩
  · exact ⟨_, cap, rfl⟩
/-- The elements' cells. -/
theorem OwnAt.at_ {w : World} {base : Nat} {e : TypeId} {v : Value} (h : OwnAt w base e sz R v xs) (hp : 0 < xs.length) : ∃ g c, v = .slice (some ⟨g, 0, none⟩) xs.length c ∧ xs.length ≤ c ∧ base ≤ g ∧ g < w.heap.size ∧ (∀ i, w.frozen? ⟨g, i, none⟩ = false) ∧ (∃ cur, w.heap[g]? = some (.cells cur e (0, 0))) ∧ ∀ j x, xs[j]? = some x → ∃ cs, cs.length = sz ∧ R x cs ∧ ∀ i u, cs[i]? = some u → w.cell? ⟨g, j * sz + i, none⟩ = some u := by
  obtain ⟨cells, h, hr⟩ := h
  rcases h.2 with ⟨rfl, h0⟩ | ⟨g, cap, cur, rfl, hb, hh, hc, _⟩
  · omega
  · refine ⟨g, cap, rfl, hc, hb, blt_ hh, fun i => by simp [World.frozen?, hh], ⟨cur, hh⟩, fun j x hx => ?_⟩
    obtain ⟨cs, h1, h2, h3⟩ := hr.2 j x hx
    refine ⟨cs, h1, h2, fun i u hu => ?_⟩
    have := h.cells (g := g) rfl (j * sz + i) u (h3 i u hu)
    rwa [add_plain] at this
theorem OwnAt.slice {w : World} {base : Nat} {e : TypeId} {v : Value} {S : Nat → Prop} (h : OwnAt w base e sz R v xs) (hS : ∀ g c, v.ownBlock = some g → w.heap[g]? = some (.cells c e (0, 0)) → S g) (hl : xs.length ≤ N44) (hR : ∀ x ∈ xs, ∀ cs, R x cs → R' x cs) : SliceAt S w sz R' v xs := by
  obtain ⟨cells, h, hr⟩ := h
  exact SliceAt.of_own h hS hl (hr.imp hR).2
theorem OwnAt.keep {w w' : World} {base : Nat} {e : TypeId} {v : Value} (h : OwnAt w base e sz R v xs) (hg : ∀ k, v.ownBlock = some k → k < w.heap.size → w'.heap[k]? = w.heap[k]?) (hR : ∀ x ∈ xs, ∀ cs, R x cs → R' x cs) : OwnAt w' base e sz R' v xs := by
  obtain ⟨cells, h, hr⟩ := h
  refine ⟨cells, ⟨h.1, ?_⟩, hr.imp hR⟩
  rcases h.2 with hn | ⟨g, cap, cur, rfl, hb, hgg, rest⟩
  · exact .inl hn
  · exact .inr ⟨g, cap, cur, rfl, hb, (hg g rfl (blt_ hgg)).trans hgg, rest⟩
end
section
variable {P : Program} {ops : Array Oper} {rest : List Oper} {o : Oper} {a : Act} {Q : Exit → Act → World → Prop}
/-- append(v, x), x one element, which lies alone in the world's last block. -/
theorem app_one {α : Type} {R : α → List Value → Prop} {W : World} (base : Nat) (hgd : o.guard = none) (s x : Operand) (t e : TypeId) (z : Value) (sz bytes : Nat)
    (ho : o.op = .call { callee := .builtin .append, args := #[s, x], argTypes := #[t, t] })
    (ht : P.underlying t = some (.slice e)) (hinfo : (P.info? e).map (fun i => (i.zero, i.size, i.bytes)) = some (some z, sz, bytes)) (hz : z.cells.size = sz) (hsz : 0 < sz) (hb0 : 0 < bytes)
    (v : Value) (xs : List α) (y : α) (news : List Value) (hs : a.eval s = v) (B : Nat) (hx : a.eval x = .slice (some ⟨B, 0, none⟩) 1 1) (hB : B = W.heap.size) (hl : news.length = sz) (h1 : ∀ u ∈ news, u.oneCell' = true)
    (HO : OwnAt W base e sz R v xs) (hbase : base ≤ W.heap.size) (hn : (xs.length + 1) * bytes ≤ 140737488355328)
    (h : ∀ v1 w1, (∀ R' : α → List Value → Prop, (∀ x ∈ xs, ∀ cs, R x cs → R' x cs) → R' y news → OwnAt w1 base e sz R' v1 (xs ++ [y])) → W.grownBy w1 v.ownBlock → (v1.ownBlock = v.ownBlock ∨ ∃ b, v1.ownBlock = some b ∧ W.heap.size ≤ b) → wpList P ops Q rest (a.put o.dst v1) w1) :
    wpList P ops Q (o :: rest) a (W.alloc (.cells news.toArray e)) := by
  subst hB
  obtain ⟨i0, hi, hzz⟩ := Option.map_eq_some_iff.1 hinfo
  simp only [Prod.mk.injEq] at hzz
  obtain ⟨hz0, hz1, hz2⟩ := hzz
  obtain ⟨cells, HO, hr⟩ := HO
  have hlen : xs.length + 1 ≤ 140737488355328 := Nat.le_trans (Nat.le_mul_of_pos_right _ hb0) hn
  refine wpList_append_own_at (W.alloc (.cells news.toArray e)) hgd s x t ho base e i0 z sz bytes ht hi hz0 hz1 hz2 hz hsz v xs.length cells hs (HO.alloc _) ⟨W.heap.size, 0, none⟩ 1 1 news hx (by rw [hl]; omega)
    (fun j u hu => by rw [add_plain]; have hnw := new_ W (.cells news.toArray e); simp only [World.cell?, hnw]; simpa using hu) h1 (by simp only [maxLen]; omega) hn (by simp; omega) ?_
  intro v1 w1 hown hg _ hat
  refine h v1 w1 (fun R' hR hy => ⟨cells ++ news, by simpa using hown, (hr.imp hR).snoc hl hy⟩) (World.grownBy.trans (World.grownBy_alloc W _ _) hg) ?_
  rcases hat with hat | hat
  · exact .inl hat
  · exact .inr ⟨_, hat, by simp⟩
end
/-! ### what the elements are -/
structure Fm where
  op : Int
  name : ByteArray
  cmp : Int
  n : Int
  kids : List Fm
structure Fc where
  name : ByteArray
  kind : Int
  lo : Int
  hi : Int
structure Nd where
  leaf : Bool
  fact : Int
  cuts : List Int
  kids : List Int
def I64 (x : Int) : Prop := -9223372036854775808 ≤ x ∧ x ≤ 9223372036854775807
theorem i64_lit {x : Int} (h : -9223372036854775808 ≤ x ∧ x ≤ 9223372036854775807) : I64 x := h
def IntR (x : Int) (cs : List Value) : Prop := cs = [.int .i64 x] ∧ I64 x
def IntsAt (S : Nat → Prop) (w : World) (v : Value) (xs : List Int) : Prop := SliceAt S w 1 IntR v xs
def FcR (x : Fc) (cs : List Value) : Prop := cs = [.string x.name, .int .i64 x.kind, .int .i64 x.lo, .int .i64 x.hi] ∧ I64 x.kind ∧ I64 x.lo ∧ I64 x.hi ∧ x.name.size ≤ 140737488351232
def FcsAt (S : Nat → Prop) (w : World) (v : Value) (xs : List Fc) : Prop := SliceAt S w 4 FcR v xs
def NdR (S : Nat → Prop) (w : World) (x : Nd) (cs : List Value) : Prop := ∃ v2 v3, cs = [.bool x.leaf, .int .i64 x.fact, v2, v3] ∧ I64 x.fact ∧ IntsAt S w v2 x.cuts ∧ IntsAt S w v3 x.kids
def NdsAt (S : Nat → Prop) (w : World) (v : Value) (xs : List Nd) : Prop := SliceAt S w 4 (NdR S w) v xs
def FmR (S : Nat → Prop) (w : World) : Nat → Fm → List Value → Prop
  | 0, _, _ => False
  | d + 1, f, cs => ∃ v4, cs = [.int .i64 f.op, .string f.name, .int .i64 f.cmp, .int .i64 f.n, v4] ∧ I64 f.op ∧ I64 f.cmp ∧ I64 f.n ∧ f.name.size ≤ 140737488351232 ∧ SliceAt S w 5 (FmR S w d) v4 f.kids

section
variable {S S2 : Nat → Prop} {w w' : World} {v : Value} {cs : List Value}
theorem IntsAt.keep {xs : List Int} (h : IntsAt S w v xs) (hw : w.heap.size ≤ w'.heap.size) (m : Agree S w w') (hS : Sub S S2 w) : IntsAt S2 w' v xs := SliceAt.keep h hw m hS (fun _ _ _ h => h)
theorem FcsAt.keep {xs : List Fc} (h : FcsAt S w v xs) (hw : w.heap.size ≤ w'.heap.size) (m : Agree S w w') (hS : Sub S S2 w) : FcsAt S2 w' v xs := SliceAt.keep h hw m hS (fun _ _ _ h => h)
theorem NdR.keep {x : Nd} (h : NdR S w x cs) (hw : w.heap.size ≤ w'.heap.size) (m : Agree S w w') (hS : Sub S S2 w) : NdR S2 w' x cs := by
  obtain ⟨v2, v3, rfl, h0, h1, h2⟩ := h
  exact ⟨v2, v3, rfl, h0, h1.keep hw m hS, h2.keep hw m hS⟩
theorem NdsAt.keep {xs : List Nd} (h : NdsAt S w v xs) (hw : w.heap.size ≤ w'.heap.size) (m : Agree S w w') (hS : Sub S S2 w) : NdsAt S2 w' v xs := SliceAt.keep h hw m hS (fun _ _ _ h => h.keep hw m hS)
theorem FmR.keep (hw : w.heap.size ≤ w'.heap.size) (m : Agree S w w') (hS : Sub S S2 w) : ∀ {d : Nat} {f : Fm} {cs : List Value}, FmR S w d f cs → FmR S2 w' d f cs
  | 0, _, _, h => h
  | _ + 1, _, _, ⟨v4, h0, h1, h2, h3, h4, h5⟩ => ⟨v4, h0, h1, h2, h3, h4, SliceAt.keep h5 hw m hS (fun _ _ _ h => FmR.keep hw m hS h)⟩
theorem FmR.up : ∀ {d : Nat} {f : Fm} {cs : List Value}, FmR S w d f cs → FmR S w (d + 1) f cs
  | 0, _, _, h => h.elim
  | _ + 1, _, _, ⟨v4, h0, h1, h2, h3, h4, h5⟩ => ⟨v4, h0, h1, h2, h3, h4, SliceAt.keep h5 (Nat.le_refl _) (fun _ _ _ => rfl) (fun _ _ h => h) (fun _ _ _ h => FmR.up h)⟩
end
end Go.Proofs.YtfajbcjcigajfaaGreatDoor
namespace Go.Proofs.YtfajbcjcigajfaaGreatDoor
open Go.RowKit

def cmpB (v c n : Int) : Bool := if c = 1 then v == n else if c = 2 then v != n else if c = 3 then decide (v < n) else if c = 4 then decide (v ≤ n) else if c = 5 then decide (n < v) else decide (n ≤ v)
def knownI (b : Bool) : Int := if b then 1 else 2
def bareF (op : Int) : Fm := ⟨op, ⟨#[]⟩, 0, 0, []⟩
def knownF (b : Bool) : Fm := bareF (knownI b)
/-- What is left of a conjunction (op 5) or disjunction (op 6) whose parts are ks. -/
def unitI (op : Int) : Int := if op = 6 then 2 else 1
def zeroI (op : Int) : Int := if op = 6 then 1 else 2
def shutF (op : Int) : List Fm → Fm
  | [] => bareF (unitI op)
  | [k] => k
  | ks => ⟨op, ⟨#[]⟩, 0, 0, ks⟩
def joinF (op : Int) (ks : List Fm) : Fm :=
  match ks.find? (fun k => k.op == zeroI op) with
  | some k => k
  | none => shutF op (ks.filter fun k => k.op != unitI op)
def notF (k : Fm) : Fm := if k.op = 1 ∨ k.op = 2 then knownF (k.op == 2) else ⟨4, ⟨#[]⟩, 0, 0, [k]⟩
def given (nm : ByteArray) (v : Int) (f : Fm) : Fm :=
  if f.op = 3 then (if f.name = nm then knownF (cmpB v f.cmp f.n) else f)
  else if f.op = 4 then notF ((f.kids.map fun k => given nm v k).headD (bareF 0))
  else if f.op = 5 ∨ f.op = 6 then joinF f.op (f.kids.map fun k => given nm v k)
  else f
termination_by f
decreasing_by all_goals (cases f; simp_wf; rename_i h; have := List.sizeOf_lt_of_mem h; simp_all; omega)

end Go.Proofs.YtfajbcjcigajfaaGreatDoor
namespace Go.Proofs.YtfajbcjcigajfaaGreatDoor
open Go.RowKit

/-- Below the heap's size, or new and a row of formulas. -/
def SN (S : Nat → Prop) (w w' : World) (b : Nat) : Prop := (S b ∧ b < w.heap.size) ∨ (w.heap.size ≤ b ∧ ∃ c, w'.heap[b]? = some (.cells c 24 (0, 0)))

theorem knownI_eq (b : Bool) : (if b then (1:Int) else 2) = knownI b := rfl
set_option maxHeartbeats 400000 in
theorem known_any (b : Bool) (w : World) :
    Calls Tryz.prog 94 #[.bool b] w fun e w' => e = .returned (.agg #[.int .i64 (knownI b), .string ⟨#[]⟩, .int .i64 0, .int .i64 0, .slice none 0 0]) ∧ Below w.heap.size w w' := by
  cases b
  all_goals
    go_enter Tryz.func94, Tryz.ntmps94
    go_wp2
    refine bodyPost_ret (v := .agg #[.int .i64 _, .string ⟨#[]⟩, .int .i64 0, .int .i64 0, .slice none 0 0]) (by simp [results, Tryz.results94, go_sem, knownI]) rfl ⟨rfl, ?_⟩
    exact (Below.refl _ _).alloc (Nat.le_refl _) _
set_option maxHeartbeats 400000 in
theorem compare_any (v c n : Int) (w : World) :
    Calls Tryz.prog 95 #[.int .i64 v, .int .i64 c, .int .i64 n] w fun e w' => e = .returned (.bool (cmpB v c n)) ∧ w = w' := by
  go_enter Tryz.func95, Tryz.ntmps95
  go_wp2
  all_goals
    go_ret
    simp_all [cmpB]
set_option maxRecDepth 100000 in
set_option maxHeartbeats 400000 in
theorem given_test (c n x : Int) (nm nm2 : ByteArray) (A : Option Addr) (l cp : Nat) (w : World) (h : (nm.toList == nm2.toList) = true) :
    Calls Tryz.prog 45 #[.agg #[.int .i64 3, .string nm, .int .i64 c, .int .i64 n, .slice A l cp], .string nm2, .int .i64 x] w fun e w' => e = .returned (.agg #[.int .i64 (knownI (cmpB x c n)), .string ⟨#[]⟩, .int .i64 0, .int .i64 0, .slice none 0 0]) ∧ Below w.heap.size w w' := by
  go_enter Tryz.func45, Tryz.ntmps45
  go_wp2_with (first | (go_at_call 95; refine (compare_any _ _ _ _).mono ?_; rintro e w' ⟨rfl, rfl⟩) | (go_at_call 94; refine (known_any _ _).mono ?_; rintro e w1 ⟨rfl, hb⟩; obtain ⟨hc, hf⟩ := bcell hb; have hz : w.heap.size + 2 ≤ w1.heap.size := by { have := hb.size; simp at this; omega }))
  refine bodyPost_ret (v := .agg #[.int .i64 (knownI (cmpB x c n)), .string ⟨#[]⟩, .int .i64 0, .int .i64 0, .slice none 0 0]) (by simp [results, Tryz.results45, go_sem, hc]) rfl ⟨rfl, ?_⟩
  exact (((((bthen (((Below.refl _ _).alloc (Nat.le_refl _) _).alloc (by simp) _) hb).setCell (by simp) _).setCell (by simp) _).setCell (by simp) _).setCell (by simp) _).setCell (by simp) _
set_option maxRecDepth 100000 in
set_option maxHeartbeats 400000 in
theorem given_test_no (c n x : Int) (nm nm2 : ByteArray) (A : Option Addr) (l cp : Nat) (w : World) (h : (nm.toList == nm2.toList) = false) :
    Calls Tryz.prog 45 #[.agg #[.int .i64 3, .string nm, .int .i64 c, .int .i64 n, .slice A l cp], .string nm2, .int .i64 x] w fun e w' => e = .returned (.agg #[.int .i64 3, .string nm, .int .i64 c, .int .i64 n, .slice A l cp]) ∧ Below w.heap.size w w' := by
  go_enter Tryz.func45, Tryz.ntmps45
  go_wp2_with fail
  refine bodyPost_ret (v := .agg #[.int .i64 3, .string nm, .int .i64 c, .int .i64 n, .slice A l cp]) (by simp [results, Tryz.results45, go_sem]) rfl ⟨rfl, ?_⟩
  exact ((Below.refl _ _).alloc (Nat.le_refl _) _).alloc (by simp) _
set_option maxRecDepth 100000 in
set_option maxHeartbeats 400000 in
theorem given_other (op c n x : Int) (nm nm2 : ByteArray) (A : Option Addr) (l cp : Nat) (w : World) (h3 : (op == 3) = false) (h4 : (op == 4) = false) (h5 : (op == 5) = false) (h6 : (op == 6) = false) :
    Calls Tryz.prog 45 #[.agg #[.int .i64 op, .string nm, .int .i64 c, .int .i64 n, .slice A l cp], .string nm2, .int .i64 x] w fun e w' => e = .returned (.agg #[.int .i64 op, .string nm, .int .i64 c, .int .i64 n, .slice A l cp]) ∧ Below w.heap.size w w' := by
  go_enter Tryz.func45, Tryz.ntmps45
  go_wp2_with fail
  refine bodyPost_ret (v := .agg #[.int .i64 op, .string nm, .int .i64 c, .int .i64 n, .slice A l cp]) (by simp [results, Tryz.results45, go_sem]) rfl ⟨rfl, ?_⟩
  exact ((Below.refl _ _).alloc (Nat.le_refl _) _).alloc (by simp) _

theorem knownF_at (S : Nat → Prop) (w : World) (d : Nat) (b : Bool) : FmR S w (d + 1) (knownF b) [.int .i64 (knownI b), .string ⟨#[]⟩, .int .i64 0, .int .i64 0, .slice none 0 0] :=
  ⟨_, rfl, by cases b <;> simp [knownF, knownI, bareF, I64], by simp [knownF, bareF, I64], by simp [knownF, bareF, I64], by simp [knownF, bareF, ByteArray.size], SliceAt.nil ..⟩
theorem store5 {w w1 : World} {b : Nat} (h : Below w.heap.size w w1) (hb : w.heap.size ≤ b) (v0 v1 v2 v3 v4 : Value) : Below w.heap.size w (((((w1.setCell ⟨b, 0, none⟩ v0).setCell ⟨b, 1, none⟩ v1).setCell ⟨b, 2, none⟩ v2).setCell ⟨b, 3, none⟩ v3).setCell ⟨b, 4, none⟩ v4) :=
  ((((h.setCell hb _).setCell hb _).setCell hb _).setCell hb _).setCell hb _
theorem chg5 {T : Nat → Prop} {w1 : World} {b : Nat} (hb : T b) (v0 v1 v2 v3 v4 : Value) : Chg T w1 (((((w1.setCell ⟨b, 0, none⟩ v0).setCell ⟨b, 1, none⟩ v1).setCell ⟨b, 2, none⟩ v2).setCell ⟨b, 3, none⟩ v3).setCell ⟨b, 4, none⟩ v4) :=
  (((((Chg.refl _ _).setCell (fun _ => hb) _).setCell (fun _ => hb) _).setCell (fun _ => hb) _).setCell (fun _ => hb) _).setCell (fun _ => hb) _
/-- A formula's five cells. -/
def fv (f : Fm) (A : Option Addr) (c : Nat) : List Value := [.int .i64 f.op, .string f.name, .int .i64 f.cmp, .int .i64 f.n, .slice A f.kids.length c]
/-- What 'given' hands back. -/
def GivenPost (S : Nat → Prop) (w0 : World) (d : Nat) (g : Fm) (e : Ending) (w' : World) : Prop :=
  ∃ A c, e = .returned (.agg #[.int .i64 g.op, .string g.name, .int .i64 g.cmp, .int .i64 g.n, .slice A g.kids.length c]) ∧ FmR (SN S w0 w') w' d g (fv g A c) ∧ Below w0.heap.size w0 w'
/-- Into a later world, in which blocks that were not there at first have turned. -/
theorem SN.lift {S : Nat → Prop} {T : Nat → Prop} {w w0 w1 w2 : World} (h1 : w.heap.size ≤ w0.heap.size) (h : Chg T w1 w2) (hT : ∀ i, T i → w.heap.size ≤ i ∧ i < w0.heap.size) : Sub (SN (fun b => S b ∧ b < w.heap.size) w0 w1) (SN S w w2) w1 := by
  intro b hb hs
  rcases hs with hs | ⟨hs, c, hc⟩
  · exact .inl hs.1
  · exact .inr ⟨Nat.le_trans h1 hs, c, (h.block b hb (fun ht => by have := (hT b ht).2; omega)).trans hc⟩
theorem SN.agree {S : Nat → Prop} {T : Nat → Prop} {w w0 w1 w2 : World} (h : Chg T w1 w2) (hT : ∀ i, T i → w.heap.size ≤ i ∧ i < w0.heap.size) : Agree (SN (fun b => S b ∧ b < w.heap.size) w0 w1) w1 w2 :=
  h.agree (fun i _ hs ht => by
    have := hT i ht
    rcases hs with hs | hs
    · omega
    · omega)
theorem not_end {S T : Nat → Prop} {d : Nat} {w w0 w1 W : World} {k : Fm} {A : Option Addr} {c B B' : Nat} (hk : FmR (SN (fun b => S b ∧ b < w.heap.size) w0 w1) w1 d k (fv k A c)) (h1 : w.heap.size ≤ w0.heap.size) (hT : ∀ i, T i → w.heap.size ≤ i ∧ i < w0.heap.size)
    (hC : Chg T w1 W) (hn : W.heap[B']? = some (.cells (fv k A c).toArray 24 (0, 0))) (e : B' = B) (hB : w.heap.size ≤ B) (hb : Below w.heap.size w W) :
    GivenPost S w (d + 1) ⟨4, ⟨#[]⟩, 0, 0, [k]⟩ (.returned (.agg #[.int .i64 4, .string ⟨#[]⟩, .int .i64 0, .int .i64 0, .slice (some ⟨B, 0, none⟩) 1 1])) W := by
  subst e
  exact ⟨_, _, rfl, ⟨_, rfl, i64_lit (by simp), i64_lit (by simp), i64_lit (by simp), by simp [ByteArray.size], SliceAt.of_one hn (.inr ⟨hB, _, hn⟩) rfl (FmR.keep hC.size (SN.agree hC hT) (SN.lift h1 hC hT) hk)⟩, hb⟩
set_option maxRecDepth 100000 in
set_option maxHeartbeats 800000 in
theorem given_not (S : Nat → Prop) (d : Nat) (k kx : Fm) (c n x : Int) (nm nm2 : ByteArray) (b o cp : Nat) (w : World) (v4 : Value) (c0 : w.cell? ⟨b, o, none⟩ = some (.int .i64 k.op)) (c1 : w.cell? ⟨b, o + 1, none⟩ = some (.string k.name)) (c2 : w.cell? ⟨b, o + 2, none⟩ = some (.int .i64 k.cmp)) (c3 : w.cell? ⟨b, o + 3, none⟩ = some (.int .i64 k.n)) (c4 : w.cell? ⟨b, o + 4, none⟩ = some v4)
    (hk : ∀ w0, Below w.heap.size w w0 → Calls Tryz.prog 45 #[.agg #[.int .i64 k.op, .string k.name, .int .i64 k.cmp, .int .i64 k.n, v4], .string nm2, .int .i64 x] w0 (GivenPost (fun b => S b ∧ b < w.heap.size) w0 (d + 1) kx)) :
    Calls Tryz.prog 45 #[.agg #[.int .i64 4, .string nm, .int .i64 c, .int .i64 n, .slice (some ⟨b, o, none⟩) 1 cp], .string nm2, .int .i64 x] w (GivenPost S w (d + 2) (notF kx)) := by
  have hb0 : b < w.heap.size := cell_lt c0
  go_enter Tryz.func45, Tryz.ntmps45
  go_wp2_with fail
  refine (hk _ (((Below.refl _ _).alloc (Nat.le_refl _) _).alloc (by simp) _)).mono ?_
  rintro e w1 ⟨A4, c4', rfl, hr, hb⟩
  clear hk c0 c1 c2 c3 c4
  have hr5 := below_ hb (new_ _ _)
  simp at hr5
  obtain ⟨r0, r1, r2, r3, r4, rf⟩ := five_ hr5
  have hz := blt_ hr5
  have hz0 : w.heap.size < w1.heap.size := by omega
  have HR := Lib.hid hr
  have HB := Lib.hid hb
  clear hr hb
  obtain ⟨kop, kn, kc, kN, kks⟩ := kx
  by_cases h1 : kop = 1 ∨ kop = 2
  · have HN : Hid (notF ⟨kop, kn, kc, kN, kks⟩ = knownF (kop == 2)) := Lib.hid (by simp [notF, h1])
    have hfin : ∀ (w2 : World), Below w1.heap.size w1 w2 → ∀ (v0 v1 v2 v3 v4 : Value), GivenPost S w (d + 2) (notF ⟨kop, kn, kc, kN, kks⟩) (.returned (.agg #[.int .i64 (knownI (kop == 2)), .string ⟨#[]⟩, .int .i64 0, .int .i64 0, .slice none 0 0])) (((((w2.setCell ⟨w.heap.size + 1, 0, none⟩ v0).setCell ⟨w.heap.size + 1, 1, none⟩ v1).setCell ⟨w.heap.size + 1, 2, none⟩ v2).setCell ⟨w.heap.size + 1, 3, none⟩ v3).setCell ⟨w.heap.size + 1, 4, none⟩ v4) := by
      intro w2 h2 v0 v1 v2 v3 v4
      rw [HN.out]
      exact ⟨none, 0, rfl, knownF_at .., store5 (bthen (bthen (((Below.refl _ _).alloc (Nat.le_refl _) _).alloc (by simp) _) HB.out) h2) (Nat.le_succ _) _ _ _ _ _⟩
    have HF := Lib.hid hfin
    clear hfin
    rcases h1 with rfl | rfl
    · dsimp only
      go_wp2_with (first | (go_at_call 94; refine (known_any _ _).mono ?_; rintro e w2 ⟨rfl, hb2⟩; have hr52 := below_ hb2 (old_ hr5); obtain ⟨s0, s1, s2, s3, s4, sf⟩ := five_ hr52))
      refine bodyPost_ret (v := .agg #[.int .i64 (knownI false), .string ⟨#[]⟩, .int .i64 0, .int .i64 0, .slice none 0 0]) (by simp [results, Tryz.results45, go_sem, s0, s1, s2, s3, s4]) rfl ?_
      exact HF.out _ (bthen ((Below.refl _ _).alloc (Nat.le_refl _) _) hb2) _ _ _ _ _
    · dsimp only
      go_wp2_with (first | (go_at_call 94; refine (known_any _ _).mono ?_; rintro e w2 ⟨rfl, hb2⟩; have hr52 := below_ hb2 (old_ hr5); obtain ⟨s0, s1, s2, s3, s4, sf⟩ := five_ hr52))
      refine bodyPost_ret (v := .agg #[.int .i64 (knownI true), .string ⟨#[]⟩, .int .i64 0, .int .i64 0, .slice none 0 0]) (by simp [results, Tryz.results45, go_sem, s0, s1, s2, s3, s4]) rfl ?_
      exact HF.out _ (bthen ((Below.refl _ _).alloc (Nat.le_refl _) _) hb2) _ _ _ _ _
  · have h1' : (kop == 1) = false := by simp; omega
    have h2' : (kop == 2) = false := by simp; omega
    have HN : Hid (notF ⟨kop, kn, kc, kN, kks⟩ = ⟨4, ⟨#[]⟩, 0, 0, [⟨kop, kn, kc, kN, kks⟩]⟩) := Lib.hid (by simp [notF, h1])
    clear h1
    dsimp only
    go_wp2_with fail
    refine bodyPost_ret (v := .agg #[.int .i64 4, .string ⟨#[]⟩, .int .i64 0, .int .i64 0, .slice (some ⟨w1.heap.size + 1, 0, none⟩) 1 1]) (by simp [results, Tryz.results45, go_sem, r0, r1, r2, r3, r4, hz, hz0]) rfl ?_
    rw [HN.out]
    have hb1 := bthen (((Below.refl w.heap.size w).alloc (Nat.le_refl _) _).alloc (by simp) _) HB.out
    refine not_end (T := fun i => i = w.heap.size + 1) HR.out ?_ ?_ ?_ (new_ _ _) ?_ ?_ ?_
    · simp; omega
    · intro i hi; subst hi; simp
    · with_reducible (refine Chg.alloc (Chg.alloc (chg5 (T := fun i => i = w.heap.size + 1) rfl _ _ _ _ _) _) _)
    · simp
    · omega
    · with_reducible (refine Below.alloc (Below.alloc (store5 hb1 (Nat.le_succ _) _ _ _ _ _) ?_ _) ?_ _)
      all_goals (simp; omega)
end Go.Proofs.YtfajbcjcigajfaaGreatDoor
