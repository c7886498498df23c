/- Part of the proof of a law of customhouselaw26: the texts K3 K4. -/
import Derived.Laws.EntriesVeiled
import Derived.Test.YtfajbcjcigajfaaGreatDoorME2E3E4E5
namespace Go.Proofs.YtfajbcjcigajfaaGreatDoor
open Go.RowKit

section
variable {P : Program} {ops : Array Oper} {rest : List Oper} {o : Oper} {a : Act} {Q : Exit → Act → World → Prop}
/-- append(v, x, y), two ints, which lie alone in the world's last block. -/
theorem app_two {W : World} (base : Nat) (hgd : o.guard = none) (s x : Operand) (t e : TypeId) (z : Value)
    (ho : o.op = .call { callee := .builtin .append, args := #[s, x], argTypes := #[t, t] })
    (ht : P.underlying t = some (.slice e)) (hinfo : (P.info? e).map (fun i => (i.zero, i.size, i.bytes)) = some (some z, 1, 8)) (hz : z.cells.size = 1)
    (v : Value) (xs : List Int) (y1 y2 : Int) (hy1 : I64 y1) (hy2 : I64 y2) (hs : a.eval s = v) (B : Nat) (hx : a.eval x = .slice (some ⟨B, 0, none⟩) 2 2) (hB : B = W.heap.size)
    (HO : OwnAt W base e 1 IntR v xs) (hbase : base ≤ W.heap.size) (hn : (xs.length + 2) * 8 ≤ 140737488355328)
    (h : ∀ v1 w1, OwnAt w1 base e 1 IntR v1 (xs ++ [y1, y2]) → W.grownBy w1 v.ownBlock → wpList P ops Q rest (a.put o.dst v1) w1) :
    wpList P ops Q (o :: rest) a (W.alloc (.cells #[.int .i64 y1, .int .i64 y2] e)) := by
  subst hB
  obtain ⟨i0, hi, hzz⟩ := Option.map_eq_some_iff.1 hinfo
  simp only [Prod.mk.injEq] at hzz
  obtain ⟨hz0, hz1, hz2⟩ := hzz
  obtain ⟨cells, HO, hr⟩ := HO
  refine wpList_append_own_at (W.alloc (.cells #[.int .i64 y1, .int .i64 y2] e)) hgd s x t ho base e i0 z 1 8 ht hi hz0 hz1 hz2 hz (by decide) v xs.length cells hs (HO.alloc _) ⟨W.heap.size, 0, none⟩ 2 2 [.int .i64 y1, .int .i64 y2] hx rfl
    (fun j u hu => by rw [add_plain]; have hnw := new_ W (.cells #[.int .i64 y1, .int .i64 y2] e); simp only [World.cell?, hnw]; simpa using hu) (by simp [Value.oneCell']) (by simp only [maxLen]; omega) hn (by simp; omega) ?_
  intro v1 w1 hown hg _ hat
  refine h v1 w1 ⟨cells ++ [.int .i64 y1, .int .i64 y2], by simpa using hown, ?_⟩ (World.grownBy.trans (World.grownBy_alloc W _ _) hg)
  have h1 := (hr.snoc (cs := [.int .i64 y1]) (x := y1) rfl ⟨rfl, hy1⟩).snoc (cs := [.int .i64 y2]) (x := y2) rfl ⟨rfl, hy2⟩
  simpa using h1
end
/-- The numbers at which a formula's tests of a name may change. -/
def cutsF (nm : ByteArray) (f : Fm) : List Int := (if f.op = 3 ∧ f.name = nm then [f.n, f.n + 1] else []) ++ (f.kids.map fun k => cutsF nm k).flatten
termination_by f
decreasing_by (cases f; simp_wf; rename_i h; have := List.sizeOf_lt_of_mem h; simp_all; omega)
theorem cutsF_eq (nm : ByteArray) (f : Fm) : cutsF nm f = (if f.op = 3 ∧ f.name = nm then [f.n, f.n + 1] else []) ++ (f.kids.map (cutsF nm)).flatten := by rw [cutsF]
end Go.Proofs.YtfajbcjcigajfaaGreatDoor
namespace Go.Proofs.YtfajbcjcigajfaaGreatDoor
open Go.RowKit

/-- The box of the row that grows, or a row of numbers from B on. -/
def RowT (w : World) (B bo : Nat) (i : Nat) : Prop := i = bo ∨ (B ≤ i ∧ ∃ c, w.heap[i]? = some (.cells c 3 (0, 0)))
theorem RowT.back {a b : World} {B bo : Nat} (h : Chg (RowT a B bo) a b) : ∀ i, i < a.heap.size → RowT b B bo i → RowT a B bo i := by
  intro i hi ht
  rcases ht with rfl | ⟨hB, c, hc⟩
  · exact .inl rfl
  · by_cases hn : RowT a B bo i
    · exact hn
    · exact .inr ⟨hB, c, (h.block i hi hn).symm.trans hc⟩
theorem RowT.trans {a b c : World} {B bo : Nat} (h : Chg (RowT a B bo) a b) (k : Chg (RowT b B bo) b c) : Chg (RowT a B bo) a c := h.trans k (RowT.back h)
/-- The boxes of the closure that gathers. -/
structure StAt (w : World) (B bx bo bv : Nat) (x : Fc) (v : Value) (l : List Int) : Prop where
  fact : w.heap[bx]? = some (.cells #[.string x.name, .int .i64 x.kind, .int .i64 x.lo, .int .i64 x.hi] 82 (0, 0))
  out : w.heap[bo]? = some (.cells #[v] 28 (0, 0))
  fn : w.heap[bv]? = some (.cells #[.func (Fn.func 91) #[] #[.pointer (some ⟨bx, 0, none⟩), .pointer (some ⟨bo, 0, none⟩), .pointer (some ⟨bv, 0, none⟩)]] 130 (0, 0))
  row : OwnAt w B 3 1 IntR v l
theorem StAt.below {w w' : World} {B bx bo bv : Nat} {x : Fc} {v : Value} {l : List Int} (h : StAt w B bx bo bv x v l) (hb : Below w.heap.size w w') : StAt w' B bx bo bv x v l :=
  ⟨below_ hb h.fact, below_ hb h.out, below_ hb h.fn, h.row.keep (fun k _ hk => hb.block k hk) (fun _ _ _ h => h)⟩
theorem row_type {w : World} {B : Nat} {v : Value} {l : List Int} (h : OwnAt w B 3 1 IntR v l) {i : Nat} (hi : v.ownBlock = some i) : B ≤ i ∧ ∃ c, w.heap[i]? = some (.cells c 3 (0, 0)) := by
  obtain ⟨cells, h, _⟩ := h
  rcases h.2 with ⟨rfl, _⟩ | ⟨g, cap, cur, rfl, hb, hh, _⟩
  · cases hi
  · simp [Value.ownBlock] at hi
    subst hi
    exact ⟨hb, cur, hh⟩
end Go.Proofs.YtfajbcjcigajfaaGreatDoor
