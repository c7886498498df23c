/- Part of the proof of a law of customhouselaw26: the texts S2 S3. -/
import Derived.BigQuiet
import Derived.Test.YtfajbcjcigajfaaGreatDoorMH1
import Derived.Test.YtfajbcjcigajfaaGreatDoorMI1
import Derived.Test.YtfajbcjcigajfaaGreatDoorMS0S1
/- The walks of customhouseref26.tests and Starts. -/
namespace Go.Proofs.YtfajbcjcigajfaaGreatDoor
open Go.RowKit

theorem putL_len (l : List Int) (n lo hi : Int) : (putL l n lo hi).length ≤ l.length + 1 ∧ l.length ≤ (putL l n lo hi).length := by
  unfold putL
  split
  · omega
  · split
    · omega
    · simp only [List.length_append, List.length_take, List.length_cons, List.length_drop]; omega
def putAll (lo hi : Int) (l ns : List Int) : List Int := ns.foldl (fun l n => putL l n lo hi) l
theorem putAll_app (lo hi : Int) (l a b : List Int) : putAll lo hi l (a ++ b) = putAll lo hi (putAll lo hi l a) b := by simp [putAll]
theorem putAll_len (lo hi : Int) : ∀ (ns l : List Int), (putAll lo hi l ns).length ≤ l.length + ns.length ∧ l.length ≤ (putAll lo hi l ns).length
  | [], l => by simp [putAll]
  | n :: ns, l => by
    have h1 := putAll_len lo hi ns (putL l n lo hi)
    have h2 := putL_len l n lo hi
    have e : putAll lo hi l (n :: ns) = putAll lo hi (putL l n lo hi) ns := rfl
    rw [e, List.length_cons]
    omega
/-- The numbers at which a formula's tests of a name may change, as the machine reckons them. -/
def numsF (nm : ByteArray) (f : Fm) : List Int := (if f.op = 3 ∧ f.name = nm then [f.n, wrap64 (f.n + 1)] else []) ++ (f.kids.map fun k => numsF nm k).flatten
termination_by f
decreasing_by (cases f; simp_wf; rename_i h; have := List.sizeOf_lt_of_mem h; simp_all; omega)
theorem numsF_eq (nm : ByteArray) (f : Fm) : numsF nm f = (if f.op = 3 ∧ f.name = nm then [f.n, wrap64 (f.n + 1)] else []) ++ (f.kids.map (numsF nm)).flatten := by rw [numsF]
theorem wrap_i64 (x : Int) : I64 (wrap64 x) := by unfold I64 wrap64; omega
theorem nums_len (nm : ByteArray) : ∀ (d : Nat) (f : Fm), nodesF f ≤ d → (numsF nm f).length ≤ 2 * nodesF f
  | 0, f, h => by rw [nodesF_eq] at h; omega
  | d + 1, f, h => by
    rw [numsF_eq, List.length_append, List.length_flatten, List.map_map, nodesF_eq]
    have key : ∀ ks : List Fm, (∀ k ∈ ks, k ∈ f.kids) → (ks.map (List.length ∘ numsF nm)).sum ≤ 2 * (ks.map nodesF).sum := by
      intro ks
      induction ks with
      | nil => intro _; simp
      | cons k ks ih =>
        intro hk
        have h1 := nodes_kid (hk k (by simp))
        have h2 := nums_len nm d k (by omega)
        have h3 := ih (fun x hx => hk x (by simp [hx]))
        simp only [List.map_cons, List.sum_cons, Function.comp]
        omega
    have := key f.kids (fun _ h => h)
    split <;> simp <;> omega
theorem sub_sum2 {α : Type} (p : α → Nat) {a b : List α} (h : a.Sublist b) : (a.map p).sum ≤ (b.map p).sum := by
  induction h with
  | slnil => simp
  | cons x _ ih => simp only [List.map_cons, List.sum_cons]; omega
  | cons_cons x _ ih => simp only [List.map_cons, List.sum_cons]; omega
set_option maxRecDepth 100000 in
set_option maxHeartbeats 8000000 in
theorem tests_any (nm : ByteArray) (lo hi : Int) : ∀ (d : Nat) (S : Nat → Prop) (f : Fm) (A : Option Addr) (c : Nat) (l : List Int) (v : Value) (w : World), FmR S w d f (fv f A c) → IntsAt AnyB w v l → 0 < l.length → l.length + 2 * nodesF f ≤ 100000 →
    Calls Tryz.prog 118 #[fmV f A c, .string nm, .int .i64 lo, .int .i64 hi, v] w fun e w' => ∃ v', e = .returned v' ∧ IntsAt AnyB w' v' (putAll lo hi l (numsF nm f)) ∧ Below w.heap.size w w' := by
  intro d
  induction d with
  | zero => intro S f A c l v w h; exact h.elim
  | succ d ih =>
    intro S f A c l v w h hv hp hl
    obtain ⟨hk, _, _, hn, hs⟩ := fm_kids h
    have hkn := hk.1
    unfold N44 at hkn
    have HK := Lib.hid hk
    have HI := Lib.hid hn
    have HV := Lib.hid hv
    have HP := Lib.hid hp
    have HLL := Lib.hid hl
    have HE := Lib.hid (numsF_eq nm f)
    have HNN := Lib.hid (nodesF_eq f)
    have HIH := Lib.hid ih
    clear hk h hn hv ih hp hl
    have HB0 := Lib.hid (box_below w (.cells #[.int .i64 f.op, .string f.name, .int .i64 f.cmp, .int .i64 f.n, .slice A f.kids.length c] 24))
    have HX0 := Lib.hid (new_ w (.cells #[.int .i64 f.op, .string f.name, .int .i64 f.cmp, .int .i64 f.n, .slice A f.kids.length c] 24))
    by_cases h3 : f.op = 3
    · have h3' : (f.op == 3) = true := by simp [h3]
      by_cases hn : f.name = nm
      · have hn' : (f.name.toList == nm.toList) = true := by rw [str_eq]; simp [hn]
        have HE2 := Lib.hid (show putAll lo hi l (numsF nm f) = putAll lo hi (putL (putL l f.n lo hi) (wrap64 (f.n + 1)) lo hi) (f.kids.map (numsF nm)).flatten by rw [HE.out, if_pos ⟨h3, hn⟩]; rfl)
        clear h3 hn
        obtain ⟨Av, cv, rfl⟩ := ints_shape HV.out
        go_enter Tryz.func118, Tryz.ntmps118
        go_wp2_with fail
        have hlL := HLL.out
        have hpL := HP.out
        refine (put_any l _ f.n lo hi _ (ints_keep HV.out HB0.out) HP.out (by omega) HI.out).mono ?_
        rintro e w1 ⟨v1, rfl, hv1, hb1⟩
        have HVA := Lib.hid hv1
        have HBA := Lib.hid (bthen HB0.out hb1)
        have HXA := Lib.hid (below_ hb1 HX0.out)
        obtain ⟨A1, c1, rfl⟩ := ints_shape hv1
        have hpl1 := putL_len l f.n lo hi
        obtain ⟨la, hla⟩ : ∃ la, la = putL l f.n lo hi := ⟨_, rfl⟩
        rw [← hla] at HVA HE2 hpl1 ⊢
        clear hv1 hb1 hla
        obtain ⟨x0, x1, x2, x3, x4, _⟩ := five_ HXA.out
        have lx := blt_ HXA.out
        have HPLA := Lib.hid hpl1
        clear hpl1 hlL hpL
        go_wp2_with fail
        have hpl1 := HPLA.out
        have hlL := HLL.out
        have hpL := HP.out
        refine (put_any la _ (wrap64 (f.n + 1)) lo hi _ HVA.out (by omega) (by omega) (wrap_i64 _)).mono ?_
        rintro e w2 ⟨v2, rfl, hv2, hb2⟩
        have HV1 := Lib.hid hv2
        have HB1 := Lib.hid (HBA.out.trans (hb2.mono HBA.out.size))
        have HX1 := Lib.hid (below_ hb2 HXA.out)
        obtain ⟨A2, c2, rfl⟩ := ints_shape hv2
        have hpl2 := putL_len la (wrap64 (f.n + 1)) lo hi
        obtain ⟨l1, hl1⟩ : ∃ l1, l1 = putL la (wrap64 (f.n + 1)) lo hi := ⟨_, rfl⟩
        rw [← hl1] at HV1 HE2 hpl2 ⊢
        have HP1 := Lib.hid (show 0 < l1.length by omega)
        have HL1 := Lib.hid (show l1.length + 2 * (f.kids.map nodesF).sum ≤ 100000 by have := HNN.out; omega)
        have HE1 := HE2
        clear hv2 hb2 hl1 hpl1 hpl2 hlL hpL x0 x1 x2 x3 x4 lx HV HP HLL HBA HXA HVA HPLA
        go_wp2_with fail
        go_loopw [4, 11] (fun v4 v11 wr => ∃ (j : Nat) (l2 : List Int), j ≤ f.kids.length ∧ v11 = .int .i64 j ∧ Hid (l2 = putAll lo hi l1 ((f.kids.take j).map (numsF nm)).flatten) ∧ Hid (IntsAt AnyB wr v4 l2) ∧ Hid (l2.length ≤ l1.length + 2 * ((f.kids.take j).map nodesF).sum) ∧ Hid (0 < l2.length) ∧ Hid (Below w.heap.size w wr) ∧ Hid (wr.heap[w.heap.size]? = some (.cells #[.int .i64 f.op, .string f.name, .int .i64 f.cmp, .int .i64 f.n, .slice A f.kids.length c] 24 (0, 0)))) (fun _ v11 _ => f.kids.length - (intOf v11).toNat)
        case atStart => exact ⟨0, l1, Nat.zero_le _, rfl, Lib.hid (by simp [putAll]), HV1, Lib.hid (by simp), HP1, HB1, HX1⟩
        case round =>
          clear HV1 HP1 HB1 HX1
          obtain ⟨j, l2, hj, rfl, HL2, HV2, HLE, HP2, HB, HX⟩ := hrel
          obtain ⟨x0, x1, x2, x3, x4, _⟩ := five_ HX.out
          have lx := blt_ HX.out
          by_cases hlt : j < f.kids.length
          · obtain ⟨b2, o2, A', c', rfl, hSb, hbb, hR, k0, k1, k2, k3, k4⟩ := kid_cells (HK.out.keep' HB.out.size (Agree.of_below HB.out)) hlt
            have HT := Lib.hid (show ((f.kids.take (j + 1)).map (numsF nm)).flatten = ((f.kids.take j).map (numsF nm)).flatten ++ numsF nm f.kids[j] by
              rw [List.take_succ_eq_append_getElem hlt, List.map_append, List.flatten_append]; simp)
            have HN2 := Lib.hid (nodes_take hlt)
            have HSUM := Lib.hid (show ((f.kids.take (j + 1)).map nodesF).sum ≤ (f.kids.map nodesF).sum from sub_sum2 nodesF (List.take_sublist _ _))
            have HNL := Lib.hid (nums_len nm _ f.kids[j] (Nat.le_refl _))
            generalize f.kids[j] = k at *
            have HR := Lib.hid hR
            have hjs : (j : Int) < (f.kids.length : Int) := by omega
            clear hR
            go_wp2_with fail
            obtain ⟨A2, c2, rfl⟩ := ints_shape HV2.out
            refine (HIH.out _ k A' c' l2 _ wr HR.out HV2.out HP2.out (by have := HLE.out; have := HN2.out; have := HSUM.out; have := HL1.out; omega)).mono ?_
            rintro e w5 ⟨v5, rfl, hv5, hb5⟩
            have HV5 := Lib.hid (show IntsAt AnyB w5 v5 (putAll lo hi l2 (numsF nm k)) from hv5)
            have HB5 := Lib.hid (HB.out.trans (hb5.mono HB.out.size))
            have HX5 := Lib.hid (below_ hb5 HX.out)
            have HPL := Lib.hid (putAll_len lo hi (numsF nm k) l2)
            clear hv5 hb5
            obtain ⟨A5, c5, rfl⟩ := ints_shape HV5.out
            go_wp2_with fail
            go_roundw
            case rel => exact ⟨j + 1, putAll lo hi l2 (numsF nm k), by omega, by go_num, Lib.hid (by rw [HT.out, putAll_app, ← HL2.out]), HV5, Lib.hid (by have := HPL.out.1; have := HLE.out; have := HN2.out; have := HNL.out; omega), Lib.hid (by have := HPL.out.2; have := HP2.out; omega), HB5, HX5⟩
            case measure => simp [intOf]; omega
          · obtain rfl : j = f.kids.length := by omega
            have hL := HL2.out
            rw [List.take_length] at hL
            have HL3 := Lib.hid hL
            clear hL
            obtain ⟨A2, c2, rfl⟩ := ints_shape HV2.out
            go_wp2_with fail
            go_ret
            exact ⟨_, rfl, by rw [HE1.out, ← HL3.out]; exact HV2.out, HB.out⟩
      · have hn' : (f.name.toList == nm.toList) = false := by rw [str_eq]; simp [hn]
        have HE1 := Lib.hid (show putAll lo hi l (numsF nm f) = putAll lo hi l (f.kids.map (numsF nm)).flatten by rw [HE.out, if_neg (fun h => hn h.2)]; rfl)
        clear h3 hn
        obtain ⟨Av, cv, rfl⟩ := ints_shape HV.out
        go_enter Tryz.func118, Tryz.ntmps118
        go_wp2_with fail
        have HV1 := Lib.hid (ints_keep HV.out HB0.out)
        have HP1 := HP
        have HL1 := Lib.hid (show l.length + 2 * (f.kids.map nodesF).sum ≤ 100000 by have := HLL.out; have := HNN.out; omega)
        have HB1 := HB0
        have HX1 := HX0
        clear HV HP HLL
        go_loopw [4, 11] (fun v4 v11 wr => ∃ (j : Nat) (l2 : List Int), j ≤ f.kids.length ∧ v11 = .int .i64 j ∧ Hid (l2 = putAll lo hi l ((f.kids.take j).map (numsF nm)).flatten) ∧ Hid (IntsAt AnyB wr v4 l2) ∧ Hid (l2.length ≤ l.length + 2 * ((f.kids.take j).map nodesF).sum) ∧ Hid (0 < l2.length) ∧ Hid (Below w.heap.size w wr) ∧ Hid (wr.heap[w.heap.size]? = some (.cells #[.int .i64 f.op, .string f.name, .int .i64 f.cmp, .int .i64 f.n, .slice A f.kids.length c] 24 (0, 0)))) (fun _ v11 _ => f.kids.length - (intOf v11).toNat)
        case atStart => exact ⟨0, l, Nat.zero_le _, rfl, Lib.hid (by simp [putAll]), HV1, Lib.hid (by simp), HP1, HB1, HX1⟩
        case round =>
          clear HV1 HP1 HB1 HX1
          obtain ⟨j, l2, hj, rfl, HL2, HV2, HLE, HP2, HB, HX⟩ := hrel
          obtain ⟨x0, x1, x2, x3, x4, _⟩ := five_ HX.out
          have lx := blt_ HX.out
          by_cases hlt : j < f.kids.length
          · obtain ⟨b2, o2, A', c', rfl, hSb, hbb, hR, k0, k1, k2, k3, k4⟩ := kid_cells (HK.out.keep' HB.out.size (Agree.of_below HB.out)) hlt
            have HT := Lib.hid (show ((f.kids.take (j + 1)).map (numsF nm)).flatten = ((f.kids.take j).map (numsF nm)).flatten ++ numsF nm f.kids[j] by
              rw [List.take_succ_eq_append_getElem hlt, List.map_append, List.flatten_append]; simp)
            have HN2 := Lib.hid (nodes_take hlt)
            have HSUM := Lib.hid (show ((f.kids.take (j + 1)).map nodesF).sum ≤ (f.kids.map nodesF).sum from sub_sum2 nodesF (List.take_sublist _ _))
            have HNL := Lib.hid (nums_len nm _ f.kids[j] (Nat.le_refl _))
            generalize f.kids[j] = k at *
            have HR := Lib.hid hR
            have hjs : (j : Int) < (f.kids.length : Int) := by omega
            clear hR
            go_wp2_with fail
            obtain ⟨A2, c2, rfl⟩ := ints_shape HV2.out
            refine (HIH.out _ k A' c' l2 _ wr HR.out HV2.out HP2.out (by have := HLE.out; have := HN2.out; have := HSUM.out; have := HL1.out; omega)).mono ?_
            rintro e w5 ⟨v5, rfl, hv5, hb5⟩
            have HV5 := Lib.hid (show IntsAt AnyB w5 v5 (putAll lo hi l2 (numsF nm k)) from hv5)
            have HB5 := Lib.hid (HB.out.trans (hb5.mono HB.out.size))
            have HX5 := Lib.hid (below_ hb5 HX.out)
            have HPL := Lib.hid (putAll_len lo hi (numsF nm k) l2)
            clear hv5 hb5
            obtain ⟨A5, c5, rfl⟩ := ints_shape HV5.out
            go_wp2_with fail
            go_roundw
            case rel => exact ⟨j + 1, putAll lo hi l2 (numsF nm k), by omega, by go_num, Lib.hid (by rw [HT.out, putAll_app, ← HL2.out]), HV5, Lib.hid (by have := HPL.out.1; have := HLE.out; have := HN2.out; have := HNL.out; omega), Lib.hid (by have := HPL.out.2; have := HP2.out; omega), HB5, HX5⟩
            case measure => simp [intOf]; omega
          · obtain rfl : j = f.kids.length := by omega
            have hL := HL2.out
            rw [List.take_length] at hL
            have HL3 := Lib.hid hL
            clear hL
            obtain ⟨A2, c2, rfl⟩ := ints_shape HV2.out
            go_wp2_with fail
            go_ret
            exact ⟨_, rfl, by rw [HE1.out, ← HL3.out]; exact HV2.out, HB.out⟩
    · have h3' : (f.op == 3) = false := beq_eq_false_iff_ne.2 h3
      have HE1 := Lib.hid (show putAll lo hi l (numsF nm f) = putAll lo hi l (f.kids.map (numsF nm)).flatten by rw [HE.out, if_neg (fun h => h3 h.1)]; rfl)
      clear h3
      obtain ⟨Av, cv, rfl⟩ := ints_shape HV.out
      go_enter Tryz.func118, Tryz.ntmps118
      go_wp2_with fail
      have HV1 := Lib.hid (ints_keep HV.out HB0.out)
      have HP1 := HP
      have HL1 := Lib.hid (show l.length + 2 * (f.kids.map nodesF).sum ≤ 100000 by have := HLL.out; have := HNN.out; omega)
      have HB1 := HB0
      have HX1 := HX0
      clear HV HP HLL
      go_loopw [4, 11] (fun v4 v11 wr => ∃ (j : Nat) (l2 : List Int), j ≤ f.kids.length ∧ v11 = .int .i64 j ∧ Hid (l2 = putAll lo hi l ((f.kids.take j).map (numsF nm)).flatten) ∧ Hid (IntsAt AnyB wr v4 l2) ∧ Hid (l2.length ≤ l.length + 2 * ((f.kids.take j).map nodesF).sum) ∧ Hid (0 < l2.length) ∧ Hid (Below w.heap.size w wr) ∧ Hid (wr.heap[w.heap.size]? = some (.cells #[.int .i64 f.op, .string f.name, .int .i64 f.cmp, .int .i64 f.n, .slice A f.kids.length c] 24 (0, 0)))) (fun _ v11 _ => f.kids.length - (intOf v11).toNat)
      case atStart => exact ⟨0, l, Nat.zero_le _, rfl, Lib.hid (by simp [putAll]), HV1, Lib.hid (by simp), HP1, HB1, HX1⟩
      case round =>
        clear HV1 HP1 HB1 HX1
        obtain ⟨j, l2, hj, rfl, HL2, HV2, HLE, HP2, HB, HX⟩ := hrel
        obtain ⟨x0, x1, x2, x3, x4, _⟩ := five_ HX.out
        have lx := blt_ HX.out
        by_cases hlt : j < f.kids.length
        · obtain ⟨b2, o2, A', c', rfl, hSb, hbb, hR, k0, k1, k2, k3, k4⟩ := kid_cells (HK.out.keep' HB.out.size (Agree.of_below HB.out)) hlt
          have HT := Lib.hid (show ((f.kids.take (j + 1)).map (numsF nm)).flatten = ((f.kids.take j).map (numsF nm)).flatten ++ numsF nm f.kids[j] by
            rw [List.take_succ_eq_append_getElem hlt, List.map_append, List.flatten_append]; simp)
          have HN2 := Lib.hid (nodes_take hlt)
          have HSUM := Lib.hid (show ((f.kids.take (j + 1)).map nodesF).sum ≤ (f.kids.map nodesF).sum from sub_sum2 nodesF (List.take_sublist _ _))
          have HNL := Lib.hid (nums_len nm _ f.kids[j] (Nat.le_refl _))
          generalize f.kids[j] = k at *
          have HR := Lib.hid hR
          have hjs : (j : Int) < (f.kids.length : Int) := by omega
          clear hR
          go_wp2_with fail
          obtain ⟨A2, c2, rfl⟩ := ints_shape HV2.out
          refine (HIH.out _ k A' c' l2 _ wr HR.out HV2.out HP2.out (by have := HLE.out; have := HN2.out; have := HSUM.out; have := HL1.out; omega)).mono ?_
          rintro e w5 ⟨v5, rfl, hv5, hb5⟩
          have HV5 := Lib.hid (show IntsAt AnyB w5 v5 (putAll lo hi l2 (numsF nm k)) from hv5)
          have HB5 := Lib.hid (HB.out.trans (hb5.mono HB.out.size))
          have HX5 := Lib.hid (below_ hb5 HX.out)
          have HPL := Lib.hid (putAll_len lo hi (numsF nm k) l2)
          clear hv5 hb5
          obtain ⟨A5, c5, rfl⟩ := ints_shape HV5.out
          go_wp2_with fail
          go_roundw
          case rel => exact ⟨j + 1, putAll lo hi l2 (numsF nm k), by omega, by go_num, Lib.hid (by rw [HT.out, putAll_app, ← HL2.out]), HV5, Lib.hid (by have := HPL.out.1; have := HLE.out; have := HN2.out; have := HNL.out; omega), Lib.hid (by have := HPL.out.2; have := HP2.out; omega), HB5, HX5⟩
          case measure => simp [intOf]; omega
        · obtain rfl : j = f.kids.length := by omega
          have hL := HL2.out
          rw [List.take_length] at hL
          have HL3 := Lib.hid hL
          clear hL
          obtain ⟨A2, c2, rfl⟩ := ints_shape HV2.out
          go_wp2_with fail
          go_ret
          exact ⟨_, rfl, by rw [HE1.out, ← HL3.out]; exact HV2.out, HB.out⟩
end Go.Proofs.YtfajbcjcigajfaaGreatDoor
/- The walks of customhouseref26.Starts, Cells; customhouselaw26.small. -/
namespace Go.Proofs.YtfajbcjcigajfaaGreatDoor
open Go.RowKit

/-- The values of a fact at which a cell of a formula begins. -/
def startsN (f : Fm) (x : Fc) : List Int := putAll x.lo x.hi [x.lo] (numsF x.name f)
theorem startsN_len (f : Fm) (x : Fc) : 0 < (startsN f x).length ∧ (startsN f x).length ≤ 1 + 2 * nodesF f := by
  have h1 := putAll_len x.lo x.hi (numsF x.name f) [x.lo]
  have h2 := nums_len x.name _ f (Nat.le_refl _)
  unfold startsN
  simp only [List.length_cons, List.length_nil] at h1
  omega
set_option maxRecDepth 100000 in
set_option maxHeartbeats 4000000 in
theorem refStarts_any (d : Nat) (S : Nat → Prop) (f : Fm) (A : Option Addr) (c : Nat) (x : Fc) (w : World) (h : FmR S w d f (fv f A c)) (hn : nodesF f ≤ 40000) (hx : I64 x.lo) :
    Calls Tryz.prog 85 #[fmV f A c, .agg #[.string x.name, .int .i64 x.kind, .int .i64 x.lo, .int .i64 x.hi]] w fun e w' => ∃ v', e = .returned v' ∧ IntsAt AnyB w' v' (startsN f x) ∧ Below w.heap.size w w' := by
  have H := Lib.hid h
  have HX := Lib.hid hx
  clear h hx
  go_enter Tryz.func85, Tryz.ntmps85
  go_wp2_with fail
  have hb0 : Below w.heap.size w (((w.alloc (.cells #[.int .i64 f.op, .string f.name, .int .i64 f.cmp, .int .i64 f.n, .slice A f.kids.length c] 24)).alloc (.cells #[.string x.name, .int .i64 x.kind, .int .i64 x.lo, .int .i64 x.hi] 82)).alloc (.cells #[.int .i64 x.lo] 3)) := (((Below.refl _ _).alloc (Nat.le_refl _) _).alloc (by simp) _).alloc (by simp; omega) _
  have HB0 := Lib.hid hb0
  have hv : IntsAt AnyB (((w.alloc (.cells #[.int .i64 f.op, .string f.name, .int .i64 f.cmp, .int .i64 f.n, .slice A f.kids.length c] 24)).alloc (.cells #[.string x.name, .int .i64 x.kind, .int .i64 x.lo, .int .i64 x.hi] 82)).alloc (.cells #[.int .i64 x.lo] 3)) (.slice (some ⟨w.heap.size + 1 + 1, 0, none⟩) 1 1) [x.lo] := by
    refine SliceAt.of_one (cs := [.int .i64 x.lo]) (e := 3) (fr := (0, 0)) ?_ trivial rfl ⟨rfl, HX.out⟩
    have := new_ ((w.alloc (.cells #[.int .i64 f.op, .string f.name, .int .i64 f.cmp, .int .i64 f.n, .slice A f.kids.length c] 24)).alloc (.cells #[.string x.name, .int .i64 x.kind, .int .i64 x.lo, .int .i64 x.hi] 82)) (.cells #[.int .i64 x.lo] 3)
    have hz : ((w.alloc (.cells #[.int .i64 f.op, .string f.name, .int .i64 f.cmp, .int .i64 f.n, .slice A f.kids.length c] 24)).alloc (.cells #[.string x.name, .int .i64 x.kind, .int .i64 x.lo, .int .i64 x.hi] 82)).heap.size = w.heap.size + 1 + 1 := by simp
    rwa [hz] at this
  refine (tests_any x.name x.lo x.hi d _ f A c [x.lo] _ _ (H.out.keep hb0.size (Agree.of_below hb0) (fun _ hb hs => (⟨hs, hb⟩ : S _ ∧ _ < w.heap.size))) hv (by simp) (by simp only [List.length_cons, List.length_nil]; omega)).mono ?_
  rintro e w1 ⟨v1, rfl, hv1, hb1⟩
  have HV1 := Lib.hid hv1
  have HB1 := Lib.hid (bthen hb0 hb1)
  obtain ⟨A1, c1, rfl⟩ := ints_shape hv1
  clear hv1 hb1 hv hb0
  go_wp2_with fail
  go_ret
  exact ⟨_, rfl, HV1.out, HB1.out⟩
/-- How many cells there are; more than n are not counted. -/
def cellsW (f : Fm) (n : Int) : List Fc → Int → Int
  | [], out => out
  | x :: r, out => if n < wrap64 (out * (startsN f x).length) then n + 1 else cellsW f n r (wrap64 (out * (startsN f x).length))
def cellsK (f : Fm) (fs : List Fc) : Int := cellsW f 400 fs 1
set_option maxRecDepth 100000 in
set_option maxHeartbeats 4000000 in
theorem refCells_any (d : Nat) (S SF : Nat → Prop) (f : Fm) (A : Option Addr) (c : Nat) (fs : List Fc) (v : Value) (w : World) (h : FmR S w d f (fv f A c)) (hn : nodesF f ≤ 40000) (hx : FcsAt SF w v fs) :
    Calls Tryz.prog 37 #[fmV f A c, .agg #[v], .int .i64 400] w fun e w' => e = .returned (.int .i64 (cellsK f fs)) ∧ Below w.heap.size w w' := by
  obtain ⟨AD, cD, rfl, _⟩ := id hx
  have hl := SliceAt.len hx
  unfold N44 at hl
  have H := Lib.hid h
  have HX := Lib.hid hx
  clear h hx
  have HB0 := Lib.hid (show Below w.heap.size w ((w.alloc (.cells #[.int .i64 f.op, .string f.name, .int .i64 f.cmp, .int .i64 f.n, .slice A f.kids.length c] 24)).alloc (.cells #[.slice AD fs.length cD] 27)) from ((Below.refl _ _).alloc (Nat.le_refl _) _).alloc (by simp) _)
  have C1 := Lib.hid (show ((w.alloc (.cells #[.int .i64 f.op, .string f.name, .int .i64 f.cmp, .int .i64 f.n, .slice A f.kids.length c] 24)).alloc (.cells #[.slice AD fs.length cD] 27)).heap[w.heap.size]? = some (.cells #[.int .i64 f.op, .string f.name, .int .i64 f.cmp, .int .i64 f.n, .slice A f.kids.length c] 24 (0, 0)) from old_ (new_ _ _))
  have C2 := Lib.hid (show ((w.alloc (.cells #[.int .i64 f.op, .string f.name, .int .i64 f.cmp, .int .i64 f.n, .slice A f.kids.length c] 24)).alloc (.cells #[.slice AD fs.length cD] 27)).heap[w.heap.size + 1]? = some (.cells #[.slice AD fs.length cD] 27 (0, 0)) from by
    have := new_ (w.alloc (.cells #[.int .i64 f.op, .string f.name, .int .i64 f.cmp, .int .i64 f.n, .slice A f.kids.length c] 24)) (.cells #[.slice AD fs.length cD] 27)
    have hz : (w.alloc (.cells #[.int .i64 f.op, .string f.name, .int .i64 f.cmp, .int .i64 f.n, .slice A f.kids.length c] 24)).heap.size = w.heap.size + 1 := by simp
    rwa [hz] at this)
  go_enter Tryz.func37, Tryz.ntmps37
  go_wp2_with fail
  obtain ⟨w0, hw0⟩ : ∃ w0, w0 = ((w.alloc (.cells #[.int .i64 f.op, .string f.name, .int .i64 f.cmp, .int .i64 f.n, .slice A f.kids.length c] 24)).alloc (.cells #[.slice AD fs.length cD] 27)) := ⟨_, rfl⟩
  rw [← hw0] at HB0 C1 C2 ⊢
  clear hw0
  go_loopw [7, 8] (fun v7 v8 wr => ∃ (j : Nat) (o : Int), j ≤ fs.length ∧ v8 = .int .i64 j ∧ v7 = .int .i64 o ∧ Hid (cellsK f fs = cellsW f 400 (fs.drop j) o) ∧ Hid (Below w0.heap.size w0 wr)) (fun _ v8 _ => fs.length - (intOf v8).toNat)
  case atStart => exact ⟨0, 1, Nat.zero_le _, rfl, rfl, Lib.hid rfl, Lib.hid (Below.refl _ _)⟩
  case round =>
    obtain ⟨j, o, hj, rfl, rfl, HV, HB⟩ := hrel
    obtain ⟨x0, x1, x2, x3, x4, _⟩ := five_ (below_ HB.out C1.out)
    obtain ⟨d0, _⟩ := one_ (below_ HB.out C2.out)
    have lx := blt_ (below_ HB.out C1.out)
    have ld := blt_ (below_ HB.out C2.out)
    by_cases hlt : j < fs.length
    · obtain ⟨b, oo, rfl, _, hb, e0, e1, e2, e3, i1, i2, i3, _⟩ := fc_cells (HX.out.keep (bthen HB0.out HB.out).size (Agree.of_below (bthen HB0.out HB.out)) (fun _ hb hs => (⟨hs, hb⟩ : SF _ ∧ _ < w.heap.size))) hlt
      have HS := Lib.hid (show cellsK f fs = if (400 : Int) < wrap64 (o * (startsN f fs[j]).length) then 401 else cellsW f 400 (fs.drop (j + 1)) (wrap64 (o * (startsN f fs[j]).length)) by
        rw [HV.out, drop_cons (List.getElem?_eq_getElem hlt)]; rfl)
      have HSL := Lib.hid (startsN_len f fs[j])
      generalize fs[j] = x at *
      have hjs : (j : Int) < (fs.length : Int) := by omega
      have HI2 := Lib.hid i2
      have HFM := Lib.hid (H.out.keep (bthen HB0.out HB.out).size (Agree.of_below (bthen HB0.out HB.out)) (fun _ hb hs => (⟨hs, hb⟩ : S _ ∧ _ < w.heap.size)))
      clear i1 i2 i3 HV
      go_wp2_with fail
      go_region_with (first | (go_at_call 85; refine (refStarts_any d _ f A c x _ (HFM.out.keep (by simp) (Agree.of_below (Below.refl _ _).drew) (fun _ hb hs => (⟨hs, hb⟩ : (S _ ∧ _ < w.heap.size) ∧ _ < wr.heap.size))) hn HI2.out).mono ?_; rintro e w5 ⟨v5, rfl, hv5, hb5⟩; have HB5 := Lib.hid (bthen (Below.refl wr.heap.size wr).drew hb5); have HV5 := Lib.hid hv5; obtain ⟨A5, c5, rfl⟩ := ints_shape hv5; clear hv5 hb5))
      all_goals
        have HBN := Lib.hid (bthen HB.out HB5.out)
        clear HB HB5 x0 x1 x2 x3 x4 lx d0 ld e0 e1 e2 e3
        by_cases h4 : (400 : Int) < wrap64 (o * ((startsN f x).length : Int))
        · have HV2 := Lib.hid (show cellsK f fs = 401 by rw [HS.out, if_pos h4])
          go_wp2_with fail
          go_ret
          exact ⟨by rw [HV2.out]; rfl, bthen HB0.out HBN.out⟩
        · have h4' : decide ((400 : Int) < wrap64 (o * ((startsN f x).length : Int))) = false := decide_eq_false h4
          have HV2 := Lib.hid (show cellsK f fs = cellsW f 400 (fs.drop (j + 1)) (wrap64 (o * ((startsN f x).length : Int))) by rw [HS.out, if_neg h4])
          go_wp2_with fail
          go_roundw
          case rel => exact ⟨j + 1, _, by omega, by go_num, rfl, HV2, HBN⟩
          case measure => simp [intOf]; omega
    · obtain rfl : j = fs.length := by omega
      have HV2 := Lib.hid (show cellsK f fs = o by rw [HV.out, List.drop_length]; rfl)
      go_wp2_with fail
      go_ret
      exact ⟨by rw [HV2.out]; rfl, bthen HB0.out HB.out⟩
/-- Whether a domain has few facts, and a formula few cells in it. -/
def smallB (f : Fm) (fs : List Fc) : Bool := decide (nodesF f ≤ 250) && decide (fs.length ≤ 70) && decide (cellsK f fs ≤ 400)
set_option maxRecDepth 100000 in
set_option maxHeartbeats 4000000 in
theorem small_any (d : Nat) (S SF : Nat → Prop) (f : Fm) (A : Option Addr) (c : Nat) (fs : List Fc) (v : Value) (w : World) (h : FmR S w d f (fv f A c)) (hx : FcsAt SF w v fs) :
    Calls Tryz.prog 11 #[fmV f A c, .agg #[v]] w (BoolE (smallB f fs) w) := by
  obtain ⟨AD, cD, rfl, _⟩ := id hx
  have hl := SliceAt.len hx
  unfold N44 at hl
  have H := Lib.hid h
  have HX := Lib.hid hx
  clear h hx
  have HB0 := Lib.hid (show Below w.heap.size w ((w.alloc (.cells #[.int .i64 f.op, .string f.name, .int .i64 f.cmp, .int .i64 f.n, .slice A f.kids.length c] 24)).alloc (.cells #[.slice AD fs.length cD] 27)) from ((Below.refl _ _).alloc (Nat.le_refl _) _).alloc (by simp) _)
  have C1 := Lib.hid (show ((w.alloc (.cells #[.int .i64 f.op, .string f.name, .int .i64 f.cmp, .int .i64 f.n, .slice A f.kids.length c] 24)).alloc (.cells #[.slice AD fs.length cD] 27)).heap[w.heap.size]? = some (.cells #[.int .i64 f.op, .string f.name, .int .i64 f.cmp, .int .i64 f.n, .slice A f.kids.length c] 24 (0, 0)) from old_ (new_ _ _))
  have C2 := Lib.hid (show ((w.alloc (.cells #[.int .i64 f.op, .string f.name, .int .i64 f.cmp, .int .i64 f.n, .slice A f.kids.length c] 24)).alloc (.cells #[.slice AD fs.length cD] 27)).heap[w.heap.size + 1]? = some (.cells #[.slice AD fs.length cD] 27 (0, 0)) from by
    have := new_ (w.alloc (.cells #[.int .i64 f.op, .string f.name, .int .i64 f.cmp, .int .i64 f.n, .slice A f.kids.length c] 24)) (.cells #[.slice AD fs.length cD] 27)
    have hz : (w.alloc (.cells #[.int .i64 f.op, .string f.name, .int .i64 f.cmp, .int .i64 f.n, .slice A f.kids.length c] 24)).heap.size = w.heap.size + 1 := by simp
    rwa [hz] at this)
  go_enter Tryz.func11, Tryz.ntmps11
  go_wp2_with fail
  refine (refSmall_any _ d f A c 250 _ (H.out.keep HB0.out.size (Agree.of_below HB0.out) (fun _ hb hs => (⟨hs, hb⟩ : S _ ∧ _ < w.heap.size))) (by decide)).mono ?_
  rintro e w1 ⟨rfl, hb1⟩
  have HB1 := Lib.hid (bthen HB0.out hb1)
  obtain ⟨x0, x1, x2, x3, x4, _⟩ := five_ (below_ hb1 C1.out)
  obtain ⟨d0, _⟩ := one_ (below_ hb1 C2.out)
  have lx := blt_ (below_ hb1 C1.out)
  have ld := blt_ (below_ hb1 C2.out)
  clear hb1
  by_cases h1 : nodesF f ≤ 250
  · have h1' : decide (nodesF f ≤ 250) = true := decide_eq_true h1
    by_cases h2 : fs.length ≤ 70
    · have h2' : decide ((fs.length : Int) ≤ 70) = true := decide_eq_true (by omega)
      have h2i : (fs.length : Int) ≤ 70 := by omega
      have HV := Lib.hid (show smallB f fs = decide (cellsK f fs ≤ 400) by simp [smallB, h1, h2])
      have HN := Lib.hid h1
      clear h1 h2
      go_wp2_with fail
      refine (refCells_any d _ _ f A c fs _ w1 (H.out.keep HB1.out.size (Agree.of_below HB1.out) (fun _ hb hs => (⟨hs, hb⟩ : S _ ∧ _ < w.heap.size))) (by have := HN.out; omega) (HX.out.keep HB1.out.size (Agree.of_below HB1.out) (fun _ hb hs => (⟨hs, hb⟩ : SF _ ∧ _ < w.heap.size)))).mono ?_
      rintro e w2 ⟨rfl, hb2⟩
      have HB2 := Lib.hid (bthen HB1.out hb2)
      clear hb2
      by_cases h3 : cellsK f fs ≤ 400
      · have h3' : decide (cellsK f fs ≤ 400) = true := decide_eq_true h3
        have HV2 := Lib.hid (show smallB f fs = true by rw [HV.out, h3'])
        go_wp2_with fail
        go_ret
        exact ⟨by rw [HV2.out]; rfl, HB2.out⟩
      · have h3' : decide (cellsK f fs ≤ 400) = false := decide_eq_false h3
        have HV2 := Lib.hid (show smallB f fs = false by rw [HV.out, h3'])
        go_wp2_with fail
        go_ret
        exact ⟨by rw [HV2.out]; rfl, HB2.out⟩
    · have h2' : decide ((fs.length : Int) ≤ 70) = false := decide_eq_false (by omega)
      have HV := Lib.hid (show smallB f fs = false by simp [smallB, h2])
      clear h1 h2
      go_wp2_with fail
      go_ret
      exact ⟨by rw [HV.out]; rfl, HB1.out⟩
  · have h1' : decide (nodesF f ≤ 250) = false := decide_eq_false h1
    have HV := Lib.hid (show smallB f fs = false by simp [smallB, h1])
    clear h1
    go_wp2_with fail
    go_ret
    exact ⟨by rw [HV.out]; rfl, HB1.out⟩
end Go.Proofs.YtfajbcjcigajfaaGreatDoor
