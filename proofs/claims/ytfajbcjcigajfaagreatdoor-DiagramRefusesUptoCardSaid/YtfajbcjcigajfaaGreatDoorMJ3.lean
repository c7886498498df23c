/- Part of the proof of a law of customhouselaw26: the texts J3. -/
import Derived.Test.YtfajbcjcigajfaaGreatDoorMB2MapB3
import Derived.Test.YtfajbcjcigajfaaGreatDoorMF4
namespace Go.Proofs.YtfajbcjcigajfaaGreatDoor
open Go.RowKit

/-- The names that a formula's tests bear. -/
def namesF (f : Fm) : List ByteArray := (if f.op = 3 then [f.name] else []) ++ (f.kids.map fun k => namesF k).flatten
termination_by f
decreasing_by (cases f; simp_wf; rename_i h; have := List.sizeOf_lt_of_mem h; simp_all; omega)
theorem namesF_eq (f : Fm) : namesF f = (if f.op = 3 then [f.name] else []) ++ (f.kids.map namesF).flatten := by rw [namesF]
def addS (l : List ByteArray) (s : ByteArray) : List ByteArray := if s ∈ l then l else l ++ [s]
def addAll (l ns : List ByteArray) : List ByteArray := ns.foldl addS l
theorem addAll_app (l a b : List ByteArray) : addAll l (a ++ b) = addAll (addAll l a) b := by simp [addAll]
set_option maxRecDepth 100000 in
set_option maxHeartbeats 2000000 in
theorem tested_any (b : Nat) : ∀ (d : Nat) (S : Nat → Prop) (f : Fm) (A : Option Addr) (c : Nat) (l : List ByteArray) (w : World), FmR S w d f (fv f A c) → (∀ k, S k → k ≠ b) → SetAt w b l →
    Calls Tryz.prog 38 #[fmV f A c, .map (some b)] w fun e w' => e = .returned (.map (some b)) ∧ SetAt w' b (addAll l (namesF f)) ∧ Chg (fun i => i = b) w w' := by
  intro d
  induction d with
  | zero => intro S f A c l w h; exact h.elim
  | succ d ih =>
    intro S f A c l w h hS hm
    obtain ⟨hk, _, _, _, hs⟩ := fm_kids h
    have hkn := hk.1
    unfold N44 at hkn
    have HK := Lib.hid hk
    have HN := Lib.hid (namesF_eq f)
    have hbw := MapAt.lt hm
    have HMW := Lib.hid (show SetAt (w.alloc (.cells #[.int .i64 f.op, .string f.name, .int .i64 f.cmp, .int .i64 f.n, .slice A f.kids.length c] 24)) b l from MapAt.alloc hm _)
    have hX0 := new_ w (.cells #[.int .i64 f.op, .string f.name, .int .i64 f.cmp, .int .i64 f.n, .slice A f.kids.length c] 24)
    by_cases h3 : f.op = 3
    · have HMA := Lib.hid (show ∃ w', (Instr.mapUpdate 62 (.map (some b)) (.string f.name) (.bool true)).run Tryz.prog (w.alloc (.cells #[.int .i64 f.op, .string f.name, .int .i64 f.cmp, .int .i64 f.n, .slice A f.kids.length c] 24)) = .ok () w' ∧ (SetAt w' b (addS l f.name) ∧ World.grownBy (w.alloc (.cells #[.int .i64 f.op, .string f.name, .int .i64 f.cmp, .int .i64 f.n, .slice A f.kids.length c] 24)) w' (some b)) from HMW.out.add (s := f.name) hs)
      obtain ⟨l1, hl1⟩ : ∃ l1, l1 = addS l f.name := ⟨_, rfl⟩
      rw [← hl1] at HMA
      have HNN := Lib.hid (show addAll l (namesF f) = addAll l1 (f.kids.map namesF).flatten by rw [HN.out, if_pos h3, addAll_app, hl1]; rfl)
      have h3' : (f.op == 3) = true := by simp [h3]
      clear hk h hm h3 hl1
      go_enter Tryz.func38, Tryz.ntmps38
      go_wp2_with (at_mapUpdate; refine put_op rfl 62 (.tmp 10) (.tmp 12) (.const (.bool true)) rfl rfl rfl rfl HMA.out ?_)
      intro w2 hm2 hg2
      have HM := Lib.hid hm2
      have HC := Lib.hid (show Chg (fun i => i = b) w w2 from ((Chg.refl (fun i => i = b) w).alloc _).grown hg2 (fun i hi _ => by injection hi with hi; exact hi.symm))
      have HX := Lib.hid ((hg2.block w.heap.size (by simp) (by simp; omega)).trans hX0)
      clear hm2 hg2 hX0
      have x := five_ HX.out
      obtain ⟨x0, x1, x2, x3, x4, _⟩ := x
      have lx := blt_ HX.out
      go_wp2_with fail
      go_loopw [16] (fun v wr => ∃ j : Nat, j ≤ f.kids.length ∧ v = .int .i64 j ∧ Hid (SetAt wr b (addAll l1 ((f.kids.take j).map namesF).flatten)) ∧ Hid (Chg (fun i => i = b) w wr)) (fun v _ => f.kids.length - (intOf v).toNat)
      case atStart => exact ⟨0, Nat.zero_le _, rfl, Lib.hid (by simpa [addAll] using HM.out), HC⟩
      case round =>
        clear HM HC
        obtain ⟨j, hj, rfl, HM, HC⟩ := hrel
        by_cases hlt : j < f.kids.length
        · have hr := HK.out.keep' HC.out.size (HC.out.agree (fun i _ hs ht => hS i hs ht))
          obtain ⟨b2, o2, A', c', rfl, hSb, hbb, hR, k0, k1, k2, k3, k4⟩ := kid_cells hr hlt
          have HT2 := Lib.hid (show ((f.kids.take (j + 1)).map namesF).flatten = ((f.kids.take j).map namesF).flatten ++ namesF f.kids[j] by
            rw [List.take_succ_eq_append_getElem hlt, List.map_append, List.flatten_append]; simp)
          generalize f.kids[j] = k at *
          have HR := Lib.hid hR
          clear hR hr
          have hjs : (j : Int) < (f.kids.length : Int) := by omega
          go_wp2_with fail
          refine (ih _ k A' c' (addAll l1 ((f.kids.take j).map namesF).flatten) _ (HR.out.keep (by simp) (Agree.of_below (box_below _ _)) (fun _ hb hs => (⟨hs, hb⟩ : (S _ ∧ _ < w.heap.size) ∧ _ < wr.heap.size))) (fun k hk => hS k hk.1.1) (MapAt.alloc HM.out _)).mono ?_
          rintro e w5 ⟨rfl, hm5, hc5⟩
          have HM5 := Lib.hid (show SetAt w5 b (addAll l1 ((f.kids.take (j + 1)).map namesF).flatten) by rw [HT2.out, addAll_app]; exact hm5)
          have HC5 := Lib.hid (HC.out.trans ((Chg.alloc (Chg.refl (fun i => i = b) wr) _).trans hc5 (fun _ _ h => h)) (fun _ _ h => h))
          clear hm5 hc5 HM HC
          go_wp2_with fail
          go_roundw
          case rel => exact ⟨j + 1, by omega, by go_num, HM5, HC5⟩
          case measure => simp [intOf]; omega
        · obtain rfl : j = f.kids.length := by omega
          have hM := HM.out
          rw [List.take_length] at hM
          have HM2 := Lib.hid hM
          clear hM HM
          go_wp2_with fail
          go_ret
          exact ⟨rfl, by rw [HNN.out]; exact HM2.out, HC.out⟩
    · obtain ⟨l1, hl1⟩ : ∃ l1, l1 = l := ⟨_, rfl⟩
      have HNN := Lib.hid (show addAll l (namesF f) = addAll l1 (f.kids.map namesF).flatten by rw [HN.out, if_neg h3, hl1]; rfl)
      have h3' : (f.op == 3) = false := by simp [h3]
      have HM := Lib.hid (show SetAt (w.alloc (.cells #[.int .i64 f.op, .string f.name, .int .i64 f.cmp, .int .i64 f.n, .slice A f.kids.length c] 24)) b l1 by rw [hl1]; exact HMW.out)
      have HC := Lib.hid (show Chg (fun i => i = b) w (w.alloc (.cells #[.int .i64 f.op, .string f.name, .int .i64 f.cmp, .int .i64 f.n, .slice A f.kids.length c] 24)) from (Chg.refl (fun i => i = b) w).alloc _)
      have HX := Lib.hid hX0
      clear hk h hm h3 hl1 hX0
      go_enter Tryz.func38, Tryz.ntmps38
      go_wp2_with fail
      go_loopw [16] (fun v wr => ∃ j : Nat, j ≤ f.kids.length ∧ v = .int .i64 j ∧ Hid (SetAt wr b (addAll l1 ((f.kids.take j).map namesF).flatten)) ∧ Hid (Chg (fun i => i = b) w wr)) (fun v _ => f.kids.length - (intOf v).toNat)
      case atStart => exact ⟨0, Nat.zero_le _, rfl, Lib.hid (by simpa [addAll] using HM.out), HC⟩
      case round =>
        clear HM HC
        obtain ⟨j, hj, rfl, HM, HC⟩ := hrel
        by_cases hlt : j < f.kids.length
        · have hr := HK.out.keep' HC.out.size (HC.out.agree (fun i _ hs ht => hS i hs ht))
          obtain ⟨b2, o2, A', c', rfl, hSb, hbb, hR, k0, k1, k2, k3, k4⟩ := kid_cells hr hlt
          have HT2 := Lib.hid (show ((f.kids.take (j + 1)).map namesF).flatten = ((f.kids.take j).map namesF).flatten ++ namesF f.kids[j] by
            rw [List.take_succ_eq_append_getElem hlt, List.map_append, List.flatten_append]; simp)
          generalize f.kids[j] = k at *
          have HR := Lib.hid hR
          clear hR hr
          have hjs : (j : Int) < (f.kids.length : Int) := by omega
          go_wp2_with fail
          refine (ih _ k A' c' (addAll l1 ((f.kids.take j).map namesF).flatten) _ (HR.out.keep (by simp) (Agree.of_below (box_below _ _)) (fun _ hb hs => (⟨hs, hb⟩ : (S _ ∧ _ < w.heap.size) ∧ _ < wr.heap.size))) (fun k hk => hS k hk.1.1) (MapAt.alloc HM.out _)).mono ?_
          rintro e w5 ⟨rfl, hm5, hc5⟩
          have HM5 := Lib.hid (show SetAt w5 b (addAll l1 ((f.kids.take (j + 1)).map namesF).flatten) by rw [HT2.out, addAll_app]; exact hm5)
          have HC5 := Lib.hid (HC.out.trans ((Chg.alloc (Chg.refl (fun i => i = b) wr) _).trans hc5 (fun _ _ h => h)) (fun _ _ h => h))
          clear hm5 hc5 HM HC
          go_wp2_with fail
          go_roundw
          case rel => exact ⟨j + 1, by omega, by go_num, HM5, HC5⟩
          case measure => simp [intOf]; omega
        · obtain rfl : j = f.kids.length := by omega
          have hM := HM.out
          rw [List.take_length] at hM
          have HM2 := Lib.hid hM
          clear hM HM
          go_wp2_with fail
          go_ret
          exact ⟨rfl, by rw [HNN.out]; exact HM2.out, HC.out⟩
end Go.Proofs.YtfajbcjcigajfaaGreatDoor
