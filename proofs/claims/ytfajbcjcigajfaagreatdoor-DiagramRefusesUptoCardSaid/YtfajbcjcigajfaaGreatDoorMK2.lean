/- Part of the proof of a law of customhouselaw26: the texts K2. -/
import Derived.Test.YtfajbcjcigajfaaGreatDoorMH2H3K1
namespace Go.Proofs.YtfajbcjcigajfaaGreatDoor
open Go.RowKit

/-- A node that is not the false leaf. -/
def liveN (x : Nd) : Bool := decide (0 < x.kids.length) || x.leaf
set_option maxRecDepth 100000 in
set_option maxHeartbeats 1000000 in
theorem live_any (S : Nat → Prop) (g : List Nd) (A : Option Addr) (c bg k : Nat) (w : World) (hg : NdsAt S w (.slice A g.length c) g) (hb : w.heap[bg]? = some (.cells #[.slice A g.length c] 34 (0, 0))) (hk : k < g.length) :
    Calls Tryz.prog 63 #[.int .i64 k, .pointer (some ⟨bg, 0, none⟩)] w (BoolE (liveN g[k]) w) := by
  obtain ⟨b, o, A2, c2, A3, c3, rfl, _, hbl, hN, e0, e1, e2, e3⟩ := nd_cells hg hk
  have hl := SliceAt.len hg
  unfold N44 at hl
  generalize g[k] = x at *
  obtain ⟨x0, _⟩ := one_ hb
  have lx := blt_ hb
  have hkl : (k : Int) < (g.length : Int) := by omega
  clear hg hN
  have HV0 := Lib.hid (show liveN x = (decide (0 < x.kids.length) || x.leaf) from rfl)
  generalize x.kids.length = m at *
  cases m with
  | zero =>
    have HV := Lib.hid (show liveN x = x.leaf by rw [HV0.out]; simp)
    go_enter Tryz.func63, Tryz.ntmps63
    go_wp2_with fail
    go_ret
    exact ⟨by rw [HV.out]; rfl, Below.refl _ _⟩
  | succ m =>
    have h02 : (0 : Int) < ((m + 1 : Nat) : Int) := by omega
    have HV := Lib.hid (show liveN x = true by rw [HV0.out]; simp)
    go_enter Tryz.func63, Tryz.ntmps63
    go_wp2_with fail
    go_ret
    exact ⟨by rw [HV.out]; rfl, Below.refl _ _⟩
end Go.Proofs.YtfajbcjcigajfaaGreatDoor
