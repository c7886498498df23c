/- Part of the proof of a law of customhouselaw26: the texts Q0. -/
import Derived.Test.YtfajbcjcigajfaaGreatDoorMP1P2P3
/- What Valid asks of each node. -/
namespace Go.Proofs.YtfajbcjcigajfaaGreatDoor

def ascB (hi : Int) : Int → List Int → Bool
  | _, [] => true
  | lo, c :: cs => decide (lo < c) && decide (c ≤ hi) && ascB hi c cs
theorem ascB_iff (hi : Int) : ∀ (lo : Int) (cs : List Int), ascB hi lo cs = true ↔ Asc hi lo cs
  | _, [] => by simp [ascB, Asc]
  | lo, c :: cs => by simp only [ascB, Asc, Bool.and_eq_true, decide_eq_true_eq, ascB_iff hi c cs, and_assoc]
def kidB (g : List Nd) (x : Nd) (i : Nat) (k : Int) : Bool :=
  !(decide (k < 0)) && decide (k < g.length) && !(decide (0 < i) && decide (x.kids.getD (i - 1) 0 = k)) && !(decide (0 < (ndAt g k).kids.length) && decide ((ndAt g k).fact ≤ x.fact))
def kidsB (g : List Nd) (x : Nd) (n : Nat) : Bool := (List.range n).all fun i => kidB g x i (x.kids.getD i 0)
def oddN (fs : List Fc) (x : Nd) : Bool := x.leaf || decide (x.fact < 0) || decide ((fs.length : Int) ≤ x.fact) || decide (x.cuts.length = 0) || decide (x.kids.length ≠ x.cuts.length + 1)
/-- A node of the required form. -/
def properN (g : List Nd) (fs : List Fc) (x : Nd) : Bool :=
  if x.kids.length = 0 then decide (x.fact = 0) && decide (x.cuts.length = 0)
  else if oddN fs x = true then false
  else ascB (hiF fs x.fact) (loF fs x.fact) x.cuts && kidsB g x x.kids.length
theorem kidsB_succ (g : List Nd) (x : Nd) (n : Nat) : kidsB g x (n + 1) = (kidsB g x n && kidB g x n (x.kids.getD n 0)) := by
  unfold kidsB
  rw [List.range_succ, List.all_append]; simp
theorem kidsB_no {g : List Nd} {x : Nd} {n i : Nat} (hi : i < n) (h : kidB g x i (x.kids.getD i 0) = false) : kidsB g x n = false := by
  rw [Bool.eq_false_iff]
  intro ha
  have := List.all_eq_true.1 ha i (List.mem_range.2 hi)
  rw [h] at this; cases this
end Go.Proofs.YtfajbcjcigajfaaGreatDoor
