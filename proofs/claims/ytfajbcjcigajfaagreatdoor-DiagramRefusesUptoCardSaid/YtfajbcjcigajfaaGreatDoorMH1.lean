/- Part of the proof of a law of customhouselaw26: the texts H1. -/
import Derived.Test.YtfajbcjcigajfaaGreatDoorMF4
namespace Go.Proofs.YtfajbcjcigajfaaGreatDoor
open Go.RowKit

set_option maxRecDepth 100000 in
set_option maxHeartbeats 2000000 in
/-- The reference's count of nodes, which stops behind n. -/
theorem refSize_any : ∀ (d : Nat) (S : Nat → Prop) (f : Fm) (A : Option Addr) (c n : Nat) (w : World), FmR S w d f (fv f A c) → n ≤ 100000 →
    Calls Tryz.prog 84 #[fmV f A c, .int .i64 n] w fun e w' => e = .returned (.int .i64 ((min (nodesF f) (n + 1) : Nat) : Int)) ∧ Below w.heap.size w w' := by
  intro d
  induction d with
  | zero => intro S f A c n w h; exact h.elim
  | succ d ih =>
    intro S f A c n w h hn
    obtain ⟨hk, _⟩ := fm_kids h
    have hkl := hk.1
    unfold N44 at hkl
    have HK := Lib.hid hk
    have HE := Lib.hid (nodesF_eq f)
    clear hk h
    go_enter Tryz.func84, Tryz.ntmps84
    go_wp2_with fail
    go_loopw [5, 6] (fun vo v wr => ∃ (j o : Nat), j ≤ f.kids.length ∧ v = .int .i64 j ∧ vo = .int .i64 o ∧ Hid (o = min (1 + ((f.kids.take j).map nodesF).sum) (n + 1)) ∧ o ≤ n + 1 ∧ 1 ≤ o ∧ Hid (Below w.heap.size w wr) ∧ Hid (wr.heap[w.heap.size]? = some (.cells #[.int .i64 f.op, .string f.name, .int .i64 f.cmp, .int .i64 f.n, .slice A f.kids.length c] 24 (0, 0)))) (fun _ v _ => f.kids.length - (intOf v).toNat)
    case atStart => exact ⟨0, 1, Nat.zero_le _, rfl, rfl, Lib.hid (by simp), by omega, by omega, Lib.hid (box_below _ _), Lib.hid (new_ _ _)⟩
    case round =>
      obtain ⟨j, o, hj, rfl, rfl, HO, ho, ho1, HB, HX⟩ := hrel
      obtain ⟨s0, s1, s2, s3, s4, _⟩ := five_ HX.out
      have ls := blt_ HX.out
      by_cases hlt : j < f.kids.length
      · have hjs : (j : Int) < (f.kids.length : Int) := by omega
        by_cases hon : o ≤ n
        · have hon' : (o : Int) ≤ (n : Int) := by omega
          have hr := HK.out.keep' HB.out.size (Agree.of_below HB.out)
          obtain ⟨b, of, A', c', rfl, hSb, hb, hR, e0, e1, e2, e3, e4⟩ := kid_cells hr hlt
          have HN := Lib.hid (nodes_take hlt)
          generalize f.kids[j] = k at *
          have HR := Lib.hid hR
          clear hR hr
          go_wp2_with fail
          rw [show ((n : Int) - (o : Int)) = ((n - o : Nat) : Int) by omega]
          refine (ih _ k A' c' (n - o) wr HR.out (by omega)).mono ?_
          rintro e w2 ⟨rfl, hb2⟩
          have HB2 := Lib.hid (bthen HB.out hb2)
          have HX2 := Lib.hid (below_ hb2 HX.out)
          obtain ⟨m, hm⟩ : ∃ m, m = min (nodesF k) (n - o + 1) := ⟨_, rfl⟩
          have hm1 : m ≤ n - o + 1 := by omega
          have HM := Lib.hid hm
          rw [← hm]
          clear hm hb2 HB HX s0 s1 s2 s3 s4 e0 e1 e2 e3 e4
          go_wp2_with fail
          go_roundw
          case rel => exact ⟨j + 1, o + m, by omega, by go_num, by go_num, Lib.hid (by have := HM.out; have := HO.out; rw [HN.out]; omega), by omega, by omega, HB2, HX2⟩
          case measure => simp [intOf]; omega
        · have hon' : decide ((o : Int) ≤ (n : Int)) = false := by simp; omega
          have HF := Lib.hid (show o = min (nodesF f) (n + 1) by
            have h1 := HO.out
            have h2 := nodes_take_le (ks := f.kids) j
            rw [HE.out]; omega)
          go_wp2_with fail
          go_ret
          exact ⟨by rw [← HF.out]; rfl, HB.out⟩
      · obtain rfl : j = f.kids.length := by omega
        have HF := Lib.hid (show o = min (nodesF f) (n + 1) by
          have h1 := HO.out
          rw [List.take_length] at h1
          rw [HE.out]; exact h1)
        have hd : decide ((f.kids.length : Int) < (f.kids.length : Int)) = false := by simp
        go_wp2_with fail
        go_ret
        exact ⟨by rw [← HF.out]; rfl, HB.out⟩
set_option maxRecDepth 100000 in
set_option maxHeartbeats 1000000 in
theorem refSmall_any (S : Nat → Prop) (d : Nat) (f : Fm) (A : Option Addr) (c n : Nat) (w : World) (h : FmR S w d f (fv f A c)) (hn : n ≤ 100000) :
    Calls Tryz.prog 36 #[fmV f A c, .int .i64 n] w (BoolE (decide (nodesF f ≤ n)) w) := by
  have HV := Lib.hid (show decide (min (nodesF f) (n + 1) ≤ n) = decide (nodesF f ≤ n) by
    by_cases h1 : nodesF f ≤ n
    · rw [decide_eq_true h1, decide_eq_true (by omega)]
    · rw [decide_eq_false h1, decide_eq_false (by omega)])
  obtain ⟨m, hm⟩ : ∃ m, m = min (nodesF f) (n + 1) := ⟨_, rfl⟩
  rw [← hm] at HV
  have HM := Lib.hid hm
  clear hm
  go_enter Tryz.func36, Tryz.ntmps36
  go_wp2_with fail
  refine (refSize_any d (fun b => S b ∧ b < w.heap.size) f A c n _ (h.keep (by simp) (Agree.of_below (box_below _ _)) (fun _ hb hs => ⟨hs, hb⟩)) hn).mono ?_
  rintro e w1 ⟨rfl, hb⟩
  rw [← HM.out]
  have HB := Lib.hid (bthen (box_below _ _) hb)
  clear hb h
  go_wp2_with fail
  go_ret
  exact ⟨by rw [← HV.out]; rfl, HB.out⟩
end Go.Proofs.YtfajbcjcigajfaaGreatDoor
