/- Part of the proof of a law of customhouselaw26: the texts Q1. -/
import Derived.BigQuiet
import Derived.Test.YtfajbcjcigajfaaGreatDoorME2E3E4E5
import Derived.Test.YtfajbcjcigajfaaGreatDoorMI1
import Derived.Test.YtfajbcjcigajfaaGreatDoorMG4G5
import Derived.Test.YtfajbcjcigajfaaGreatDoorMK8
import Derived.Test.YtfajbcjcigajfaaGreatDoorMQ0
/- The walk of 'proper'. -/
namespace Go.Proofs.YtfajbcjcigajfaaGreatDoor
open Go.RowKit

theorem box_drewN' (w : World) (n : Nat) : Below w.heap.size w (w.drewN n) := ⟨rfl, rfl, rfl, Nat.le_refl _, fun _ _ => rfl⟩
theorem ascB_step {hi lo last c : Int} {cs : List Int} {j : Nat} (h : ascB hi lo cs = ascB hi last (cs.drop j)) (hc : cs[j]? = some c) : ascB hi lo cs = (decide (last < c) && decide (c ≤ hi) && ascB hi c (cs.drop (j + 1))) := by
  rw [h, drop_cons hc]; rfl
set_option maxRecDepth 100000 in
set_option maxHeartbeats 60000000 in
theorem proper_any (S S2 SF : Nat → Prop) (g : List Nd) (x : Nd) (fs : List Fc) (AG : Option Addr) (cG : Nat) (A2 : Option Addr) (c2 : Nat) (A3 : Option Addr) (c3 : Nat) (AD : Option Addr) (cD : Nat) (w : World)
    (hg : NdsAt S w (.slice AG g.length cG) g) (hx : NdIn S2 w x A2 c2 A3 c3) (hf : FcsAt SF w (.slice AD fs.length cD) fs) (_hgl : g.length ≤ 1000000) (_hfl : fs.length ≤ 1000000) :
    Calls Tryz.prog 55 #[.agg #[.slice AG g.length cG], ndV x A2 c2 A3 c3, .agg #[.slice AD fs.length cD]] w (BoolE (properN g fs x) w) := by
  have hc2 := SliceAt.len hx.cuts
  have hk2 := SliceAt.len hx.kids
  unfold N44 at hc2 hk2
  have HG := Lib.hid hg
  have HX := Lib.hid hx
  have HF := Lib.hid hf
  have HD := Lib.hid (show properN g fs x = _ from rfl)
  have HB := Lib.hid (show Below w.heap.size w (((w.alloc (.cells #[.slice AG g.length cG] 34)).alloc (.cells #[.bool x.leaf, .int .i64 x.fact, .slice A2 x.cuts.length c2, .slice A3 x.kids.length c3] 55)).alloc (.cells #[.slice AD fs.length cD] 27)) from (((Below.refl _ _).alloc (Nat.le_refl _) _).alloc (by simp) _).alloc (by simp; omega) _)
  have b1 : (((w.alloc (.cells #[.slice AG g.length cG] 34)).alloc (.cells #[.bool x.leaf, .int .i64 x.fact, .slice A2 x.cuts.length c2, .slice A3 x.kids.length c3] 55)).alloc (.cells #[.slice AD fs.length cD] 27)).heap[w.heap.size]? = some (.cells #[.slice AG g.length cG] 34 (0, 0)) := old_ (old_ (new_ _ _))
  have b2 : (((w.alloc (.cells #[.slice AG g.length cG] 34)).alloc (.cells #[.bool x.leaf, .int .i64 x.fact, .slice A2 x.cuts.length c2, .slice A3 x.kids.length c3] 55)).alloc (.cells #[.slice AD fs.length cD] 27)).heap[w.heap.size + 1]? = some (.cells #[.bool x.leaf, .int .i64 x.fact, .slice A2 x.cuts.length c2, .slice A3 x.kids.length c3] 55 (0, 0)) := old_ (alk _ _ (by simp))
  have b3 : (((w.alloc (.cells #[.slice AG g.length cG] 34)).alloc (.cells #[.bool x.leaf, .int .i64 x.fact, .slice A2 x.cuts.length c2, .slice A3 x.kids.length c3] 55)).alloc (.cells #[.slice AD fs.length cD] 27)).heap[w.heap.size + 1 + 1]? = some (.cells #[.slice AD fs.length cD] 27 (0, 0)) := alk _ _ (by simp)
  have HB1 := Lib.hid b1
  have HB2 := Lib.hid b2
  have HB3 := Lib.hid b3
  clear b1 b2 b3 hg hx hf
  by_cases h0 : x.kids.length = 0
  · have h0' : ((x.kids.length : Int) == 0) = true := by simp [h0]
    by_cases hf0 : x.fact = 0
    · have hf0' : (x.fact == 0) = true := by simp [hf0]
      by_cases hc0 : x.cuts.length = 0
      · have hc0' : ((x.cuts.length : Int) == 0) = true := by simp [hc0]
        have HV := Lib.hid (show properN g fs x = true by simp [properN, h0, hf0, hc0])
        clear h0 hf0 hc0
        go_enter Tryz.func55, Tryz.ntmps55
        go_wp2_with fail
        go_ret
        exact ⟨by rw [HV.out]; rfl, HB.out⟩
      · have hc0' : ((x.cuts.length : Int) == 0) = false := beq_eq_false_iff_ne.2 (by omega)
        have HV := Lib.hid (show properN g fs x = false by simp [properN, h0, hc0])
        clear h0 hf0 hc0
        go_enter Tryz.func55, Tryz.ntmps55
        go_wp2_with fail
        go_ret
        exact ⟨by rw [HV.out]; rfl, HB.out⟩
    · have hf0' : (x.fact == 0) = false := beq_eq_false_iff_ne.2 hf0
      have HV := Lib.hid (show properN g fs x = false by simp [properN, h0, hf0])
      clear h0 hf0
      go_enter Tryz.func55, Tryz.ntmps55
      go_wp2_with fail
      go_ret
      exact ⟨by rw [HV.out]; rfl, HB.out⟩
  · have h0' : ((x.kids.length : Int) == 0) = false := beq_eq_false_iff_ne.2 (by omega)
    by_cases ho : oddN fs x = true
    · have HV := Lib.hid (show properN g fs x = false by simp [properN, h0, ho])
      by_cases hl : x.leaf = true
      · rw [hl] at HB
        clear h0 ho
        go_enter Tryz.func55, Tryz.ntmps55
        go_wp2_with fail
        go_ret
        exact ⟨by rw [HV.out]; rfl, HB.out⟩
      · have hl' : x.leaf = false := by simpa using hl
        rw [hl'] at HB HB1 HB2 HB3
        by_cases h1 : x.fact < 0
        · clear h0 ho hl
          go_enter Tryz.func55, Tryz.ntmps55
          go_wp2_with fail
          go_ret
          exact ⟨by rw [HV.out]; rfl, HB.out⟩
        · have h1' : decide (x.fact < 0) = false := decide_eq_false h1
          by_cases h2 : (fs.length : Int) ≤ x.fact
          · clear h0 ho hl h1
            go_enter Tryz.func55, Tryz.ntmps55
            go_wp2_with fail
            go_ret
            exact ⟨by rw [HV.out]; rfl, HB.out⟩
          · have h2' : decide ((fs.length : Int) ≤ x.fact) = false := decide_eq_false h2
            by_cases h3 : x.cuts.length = 0
            · have h3' : ((x.cuts.length : Int) == 0) = true := by simp [h3]
              clear h0 ho hl h1 h2 h3
              go_enter Tryz.func55, Tryz.ntmps55
              go_wp2_with fail
              go_ret
              exact ⟨by rw [HV.out]; rfl, HB.out⟩
            · have h3' : ((x.cuts.length : Int) == 0) = false := beq_eq_false_iff_ne.2 (by omega)
              have h4 : x.kids.length ≠ x.cuts.length + 1 := by
                unfold oddN at ho
                simp only [hl', h1', h2', Bool.false_or, Bool.or_eq_true, decide_eq_true_eq] at ho
                omega
              have h4' : ((x.kids.length : Int) != (x.cuts.length : Int) + 1) = true := by simp; omega
              clear h0 ho hl h1 h2 h3 h4
              go_enter Tryz.func55, Tryz.ntmps55
              go_wp2_with fail
              go_ret
              exact ⟨by rw [HV.out]; rfl, HB.out⟩
    · have HV := Lib.hid (show properN g fs x = (ascB (hiF fs x.fact) (loF fs x.fact) x.cuts && kidsB g x x.kids.length) by simp [properN, h0, ho])
      simp only [oddN, Bool.or_eq_true, decide_eq_true_eq, not_or] at ho
      obtain ⟨⟨⟨⟨hl, h1⟩, h2⟩, h3⟩, h4⟩ := ho
      have hl' : x.leaf = false := by simpa using hl
      have h1' : decide (x.fact < 0) = false := decide_eq_false h1
      have h2' : decide ((fs.length : Int) ≤ x.fact) = false := decide_eq_false h2
      have h3' : ((x.cuts.length : Int) == 0) = false := beq_eq_false_iff_ne.2 (by omega)
      have h4' : ((x.kids.length : Int) != (x.cuts.length : Int) + 1) = false := by simp; omega
      obtain ⟨fn, hfn⟩ : ∃ fn : Nat, x.fact = fn := ⟨x.fact.toNat, by omega⟩
      have hfl2 : fn < fs.length := by omega
      have hfi : (fn : Int) < (fs.length : Int) := by omega
      obtain ⟨bf, of, rfl, _, hbf, e0, e1, e2, e3, i1, i2, i3, _⟩ := fc_cells (HF.out.keep HB.out.size (Agree.of_below HB.out) (fun _ hb hs => (⟨hs, hb⟩ : SF _ ∧ _ < w.heap.size))) hfl2
      have HLO := Lib.hid (show loF fs x.fact = fs[fn].lo by rw [hfn]; simp [loF, hfl2])
      have HHI := Lib.hid (show hiF fs x.fact = fs[fn].hi by rw [hfn]; simp [hiF, hfl2])
      rw [HLO.out, HHI.out] at HV
      generalize fs[fn] = y at *
      obtain ⟨xl, xf, xc, xk⟩ := x
      dsimp only at *
      obtain rfl : xf = (fn : Int) := hfn
      obtain rfl : xl = false := hl'
      have H4 := Lib.hid h4
      clear h0 hl h1 h2 h3 h4 e0 e1
      go_enter Tryz.func55, Tryz.ntmps55
      go_wp2_with fail
      obtain ⟨W0, hW0⟩ : ∃ W0, W0 = (((w.alloc (.cells #[.slice AG g.length cG] 34)).alloc (.cells #[.bool false, .int .i64 (fn : Int), .slice A2 xc.length c2, .slice A3 xk.length c3] 55)).alloc (.cells #[.slice (some ⟨bf, of, none⟩) fs.length cD] 27)) := ⟨_, rfl⟩
      rw [← hW0] at HB HB1 HB2 HB3 e2 e3 hbf ⊢
      clear hW0
      have hbf' : bf < W0.heap.size := hbf
      go_loopw [7, 9, 66] (fun v7 _ v wr => ∃ (j : Nat) (last : Int), j ≤ xc.length ∧ v = .int .i64 j ∧ v7 = .int .i64 last ∧ Hid (ascB y.hi y.lo xc = ascB y.hi last (xc.drop j)) ∧ Hid (Below W0.heap.size W0 wr)) (fun _ _ v _ => xc.length - (intOf v).toNat)
      case atStart => exact ⟨0, y.lo, Nat.zero_le _, rfl, rfl, Lib.hid rfl, Lib.hid (Below.refl _ _)⟩
      case round =>
        obtain ⟨j, last, hj, rfl, rfl, HA, HBW⟩ := hrel
        obtain ⟨n0, n1, n2, n3, _⟩ := four_ (below_ HBW.out HB2.out)
        have ln := blt_ (below_ HBW.out HB2.out)
        obtain ⟨d0, d1⟩ := one_ (below_ HBW.out HB3.out)
        have ld := blt_ (below_ HBW.out HB3.out)
        have e3w := (HBW.out.cell (p := ⟨bf, of + fn * 4 + 3, none⟩) hbf').trans e3
        by_cases hlt : j < xc.length
        · obtain ⟨bc, oc, rfl, _, hbc, k0, ki⟩ := int_cell (HX.out.cuts.keep (HB.out.trans (HBW.out.mono HB.out.size)).size (fun b hb _ => (HB.out.trans (HBW.out.mono HB.out.size)).block b hb) (fun _ hb hs => (⟨hs, hb⟩ : S2 _ ∧ _ < w.heap.size))) hlt
          have HST := Lib.hid (ascB_step HA.out (List.getElem?_eq_getElem hlt))
          generalize xc[j] = c at *
          have hjs : (j : Int) < (xc.length : Int) := by omega
          by_cases h5 : c ≤ last
          · have HV2 := Lib.hid (show properN g fs ⟨false, fn, xc, xk⟩ = false by rw [HV.out, HST.out, decide_eq_false (by omega : ¬ last < c)]; rfl)
            go_wp2_with fail
            go_ret
            exact ⟨by rw [HV2.out]; rfl, bthen HB.out HBW.out⟩
          · have h5' : decide (c ≤ last) = false := decide_eq_false h5
            by_cases h6 : y.hi < c
            · have HV2 := Lib.hid (show properN g fs ⟨false, fn, xc, xk⟩ = false by rw [HV.out, HST.out, decide_eq_false (by omega : ¬ c ≤ y.hi)]; simp)
              clear h5
              go_wp2_with fail
              go_ret
              exact ⟨by rw [HV2.out]; rfl, bthen HB.out HBW.out⟩
            · have h6' : decide (y.hi < c) = false := decide_eq_false h6
              have HST2 := Lib.hid (show ascB y.hi y.lo xc = ascB y.hi c (xc.drop (j + 1)) by rw [HST.out, decide_eq_true (by omega : last < c), decide_eq_true (by omega : c ≤ y.hi)]; rfl)
              clear h5 h6
              go_wp2_with fail
              go_roundw
              case rel => exact ⟨j + 1, c, by omega, by go_num, rfl, HST2, HBW⟩
              case measure => simp [intOf]; omega
        · obtain rfl : j = xc.length := by omega
          have HV2 := Lib.hid (show properN g fs ⟨false, fn, xc, xk⟩ = kidsB g ⟨false, fn, xc, xk⟩ xk.length by rw [HV.out, HA.out, List.drop_length]; rfl)
          clear HV HA
          go_wp2_with fail
          go_loopw [10, 11, 89] (fun _ _ v wr => ∃ i : Nat, i ≤ xk.length ∧ v = .int .i64 i ∧ Hid (kidsB g ⟨false, fn, xc, xk⟩ i = true) ∧ Hid (Below W0.heap.size W0 wr)) (fun _ _ v _ => xk.length - (intOf v).toNat)
          case atStart => exact ⟨0, Nat.zero_le _, rfl, Lib.hid rfl, HBW⟩
          case round =>
            clear HBW n0 n1 n2 n3 ln d0 d1 ld e3w
            obtain ⟨i, hi, rfl, HKI, HBW⟩ := hrel
            obtain ⟨n0, n1, n2, n3, _⟩ := four_ (below_ HBW.out HB2.out)
            have ln := blt_ (below_ HBW.out HB2.out)
            obtain ⟨d0, d1⟩ := one_ (below_ HBW.out HB1.out)
            have ld := blt_ (below_ HBW.out HB1.out)
            by_cases hlt : i < xk.length
            · cases i with
              | zero =>
                obtain ⟨bk, ok, rfl, _, hbk, k0, ki⟩ := int_cell (HX.out.kids.keep (HB.out.trans (HBW.out.mono HB.out.size)).size (fun b hb _ => (HB.out.trans (HBW.out.mono HB.out.size)).block b hb) (fun _ hb hs => (⟨hs, hb⟩ : S2 _ ∧ _ < w.heap.size))) hlt
                rw [Nat.add_zero] at k0
                have HKD := Lib.hid (show xk.getD 0 0 = xk[0] by simp [hlt])
                generalize xk[0] = k at *
                have hks : ((0 : Nat) : Int) < (xk.length : Int) := by omega
                by_cases hk0 : k < 0
                · have HKV := Lib.hid (show kidB g ⟨false, fn, xc, xk⟩ 0 k = false by simp [kidB, hk0])
                  go_wp2_with fail
                  have HS0 : Hid (∀ a, wr.drew.cell? a = wr.cell? a) := Lib.hid (fun _ => rfl)
                  refine wp_region_L (S := fun W => ∀ a, W.cell? a = wr.cell? a) (T := []) (by kernel_rfl) HS0.out (fun _ => ?_)
                  refine wpAnyL_pure (i := 0) (oi := _) (v := ?_) (some 94) rfl rfl (by kernel_rfl) (by kernel_rfl) (by kernel_rfl) (by kernel_rfl) (fun _ _ _ h => h) (fun _ => HS0.out) (Or.inl ⟨by rfl, ?_⟩) ?_
                  rotate_left
                  · intro W hSw; go_simp; try with_reducible rfl
                  try simp only [Act.put, List.setIfInBounds_toArray, List.set_cons_zero, List.set_cons_succ]
                  refine wpAnyL_pure (i := 1) (oi := _) (v := ?_) (some 95) rfl rfl (by kernel_rfl) (by kernel_rfl) (by kernel_rfl) (by kernel_rfl) (fun _ _ _ h => h) (fun _ => HS0.out) (Or.inl ⟨by rfl, ?_⟩) ?_
                  rotate_left
                  · intro W hSw; go_simp; try with_reducible rfl
                  try simp only [Act.put, List.setIfInBounds_toArray, List.set_cons_zero, List.set_cons_succ]
                  refine wpAnyL_pure (i := 2) (oi := _) (v := ?_) (some 96) rfl rfl (by kernel_rfl) (by kernel_rfl) (by kernel_rfl) (by kernel_rfl) (fun _ _ _ h => h) (fun _ => HS0.out) (Or.inl ⟨by rfl, ?_⟩) ?_
                  rotate_left
                  · intro W hSw; go_simp; try with_reducible rfl
                  try simp only [Act.put, List.setIfInBounds_toArray, List.set_cons_zero, List.set_cons_succ]
                  refine wpAnyL_pure (i := 3) (oi := _) (v := undef) (some 97) rfl rfl (by kernel_rfl) (by kernel_rfl) (by kernel_rfl) (by kernel_rfl) (fun _ _ _ h => h) (fun _ => HS0.out) (Or.inr ⟨by rfl, rfl⟩) ?_
                  try simp only [Act.put, List.setIfInBounds_toArray, List.set_cons_zero, List.set_cons_succ]
                  refine wpAnyL_pure (i := 4) (oi := _) (v := undef) (some 98) rfl rfl (by kernel_rfl) (by kernel_rfl) (by kernel_rfl) (by kernel_rfl) (fun _ _ _ h => h) (fun _ => HS0.out) (Or.inr ⟨by rfl, rfl⟩) ?_
                  try simp only [Act.put, List.setIfInBounds_toArray, List.set_cons_zero, List.set_cons_succ]
                  refine wpAnyL_pure (i := 5) (oi := _) (v := undef) (some 99) rfl rfl (by kernel_rfl) (by kernel_rfl) (by kernel_rfl) (by kernel_rfl) (fun _ _ _ h => h) (fun _ => HS0.out) (Or.inr ⟨by rfl, rfl⟩) ?_
                  try simp only [Act.put, List.setIfInBounds_toArray, List.set_cons_zero, List.set_cons_succ]
                  refine wpAnyL_pure (i := 6) (oi := _) (v := undef) (some 100) rfl rfl (by kernel_rfl) (by kernel_rfl) (by kernel_rfl) (by kernel_rfl) (fun _ _ _ h => h) (fun _ => HS0.out) (Or.inr ⟨by rfl, rfl⟩) ?_
                  try simp only [Act.put, List.setIfInBounds_toArray, List.set_cons_zero, List.set_cons_succ]
                  refine wpAnyL_pure (i := 7) (oi := _) (v := undef) (some 101) rfl rfl (by kernel_rfl) (by kernel_rfl) (by kernel_rfl) (by kernel_rfl) (fun _ _ _ h => h) (fun _ => HS0.out) (Or.inr ⟨by rfl, rfl⟩) ?_
                  try simp only [Act.put, List.setIfInBounds_toArray, List.set_cons_zero, List.set_cons_succ]
                  refine wpAnyL_pure (i := 8) (oi := _) (v := ?_) (some 102) rfl rfl (by kernel_rfl) (by kernel_rfl) (by kernel_rfl) (by kernel_rfl) (fun _ _ _ h => h) (fun _ => HS0.out) (Or.inl ⟨by rfl, ?_⟩) ?_
                  rotate_left
                  · intro W hSw; go_simp; try with_reducible rfl
                  try simp only [Act.put, List.setIfInBounds_toArray, List.set_cons_zero, List.set_cons_succ]
                  refine wpAnyL_pure (i := 9) (oi := _) (v := ?_) (some 103) rfl rfl (by kernel_rfl) (by kernel_rfl) (by kernel_rfl) (by kernel_rfl) (fun _ _ _ h => h) (fun _ => HS0.out) (Or.inl ⟨by rfl, ?_⟩) ?_
                  rotate_left
                  · intro W hSw; go_simp; try with_reducible rfl
                  try simp only [Act.put, List.setIfInBounds_toArray, List.set_cons_zero, List.set_cons_succ]
                  refine wpAnyL_pure (i := 10) (oi := _) (v := undef) (some 104) rfl rfl (by kernel_rfl) (by kernel_rfl) (by kernel_rfl) (by kernel_rfl) (fun _ _ _ h => h) (fun _ => HS0.out) (Or.inr ⟨by rfl, rfl⟩) ?_
                  try simp only [Act.put, List.setIfInBounds_toArray, List.set_cons_zero, List.set_cons_succ]
                  refine wpAnyL_pure (i := 11) (oi := _) (v := undef) (some 105) rfl rfl (by kernel_rfl) (by kernel_rfl) (by kernel_rfl) (by kernel_rfl) (fun _ _ _ h => h) (fun _ => HS0.out) (Or.inr ⟨by rfl, rfl⟩) ?_
                  try simp only [Act.put, List.setIfInBounds_toArray, List.set_cons_zero, List.set_cons_succ]
                  refine wpAnyL_pure (i := 12) (oi := _) (v := undef) (some 106) rfl rfl (by kernel_rfl) (by kernel_rfl) (by kernel_rfl) (by kernel_rfl) (fun _ _ _ h => h) (fun _ => HS0.out) (Or.inr ⟨by rfl, rfl⟩) ?_
                  try simp only [Act.put, List.setIfInBounds_toArray, List.set_cons_zero, List.set_cons_succ]
                  refine wpAnyL_pure (i := 13) (oi := _) (v := undef) (some 107) rfl rfl (by kernel_rfl) (by kernel_rfl) (by kernel_rfl) (by kernel_rfl) (fun _ _ _ h => h) (fun _ => HS0.out) (Or.inr ⟨by rfl, rfl⟩) ?_
                  try simp only [Act.put, List.setIfInBounds_toArray, List.set_cons_zero, List.set_cons_succ]
                  refine wpAnyL_pure (i := 14) (oi := _) (v := undef) (some 108) rfl rfl (by kernel_rfl) (by kernel_rfl) (by kernel_rfl) (by kernel_rfl) (fun _ _ _ h => h) (fun _ => HS0.out) (Or.inr ⟨by rfl, rfl⟩) ?_
                  try simp only [Act.put, List.setIfInBounds_toArray, List.set_cons_zero, List.set_cons_succ]
                  refine wpAnyL_pure (i := 15) (oi := _) (v := undef) (some 109) rfl rfl (by kernel_rfl) (by kernel_rfl) (by kernel_rfl) (by kernel_rfl) (fun _ _ _ h => h) (fun _ => HS0.out) (Or.inr ⟨by rfl, rfl⟩) ?_
                  try simp only [Act.put, List.setIfInBounds_toArray, List.set_cons_zero, List.set_cons_succ]
                  refine wpAnyL_pure (i := 16) (oi := _) (v := undef) (some 110) rfl rfl (by kernel_rfl) (by kernel_rfl) (by kernel_rfl) (by kernel_rfl) (fun _ _ _ h => h) (fun _ => HS0.out) (Or.inr ⟨by rfl, rfl⟩) ?_
                  try simp only [Act.put, List.setIfInBounds_toArray, List.set_cons_zero, List.set_cons_succ]
                  refine wpAnyL_pure (i := 17) (oi := _) (v := undef) (some 111) rfl rfl (by kernel_rfl) (by kernel_rfl) (by kernel_rfl) (by kernel_rfl) (fun _ _ _ h => h) (fun _ => HS0.out) (Or.inr ⟨by rfl, rfl⟩) ?_
                  try simp only [Act.put, List.setIfInBounds_toArray, List.set_cons_zero, List.set_cons_succ]
                  refine wpAnyL_pure (i := 18) (oi := _) (v := undef) (some 112) rfl rfl (by kernel_rfl) (by kernel_rfl) (by kernel_rfl) (by kernel_rfl) (fun _ _ _ h => h) (fun _ => HS0.out) (Or.inr ⟨by rfl, rfl⟩) ?_
                  try simp only [Act.put, List.setIfInBounds_toArray, List.set_cons_zero, List.set_cons_succ]
                  refine wpAnyL_pure (i := 19) (oi := _) (v := undef) (some 113) rfl rfl (by kernel_rfl) (by kernel_rfl) (by kernel_rfl) (by kernel_rfl) (fun _ _ _ h => h) (fun _ => HS0.out) (Or.inr ⟨by rfl, rfl⟩) ?_
                  try simp only [Act.put, List.setIfInBounds_toArray, List.set_cons_zero, List.set_cons_succ]
                  refine wpAnyL_pure (i := 20) (oi := _) (v := undef) (some 114) rfl rfl (by kernel_rfl) (by kernel_rfl) (by kernel_rfl) (by kernel_rfl) (fun _ _ _ h => h) (fun _ => HS0.out) (Or.inr ⟨by rfl, rfl⟩) ?_
                  try simp only [Act.put, List.setIfInBounds_toArray, List.set_cons_zero, List.set_cons_succ]
                  refine wpAnyL_pure (i := 21) (oi := _) (v := undef) (some 115) rfl rfl (by kernel_rfl) (by kernel_rfl) (by kernel_rfl) (by kernel_rfl) (fun _ _ _ h => h) (fun _ => HS0.out) (Or.inr ⟨by rfl, rfl⟩) ?_
                  try simp only [Act.put, List.setIfInBounds_toArray, List.set_cons_zero, List.set_cons_succ]
                  refine wpAnyL_pure (i := 22) (oi := _) (v := ?_) (some 116) rfl rfl (by kernel_rfl) (by kernel_rfl) (by kernel_rfl) (by kernel_rfl) (fun _ _ _ h => h) (fun _ => HS0.out) (Or.inl ⟨by rfl, ?_⟩) ?_
                  rotate_left
                  · intro W hSw; go_simp; try with_reducible rfl
                  try simp only [Act.put, List.setIfInBounds_toArray, List.set_cons_zero, List.set_cons_succ]
                  refine wpAnyL_pure (i := 23) (oi := _) (v := ?_) (some 117) rfl rfl (by kernel_rfl) (by kernel_rfl) (by kernel_rfl) (by kernel_rfl) (fun _ _ _ h => h) (fun _ => HS0.out) (Or.inl ⟨by rfl, ?_⟩) ?_
                  rotate_left
                  · intro W hSw; go_simp; try with_reducible rfl
                  try simp only [Act.put, List.setIfInBounds_toArray, List.set_cons_zero, List.set_cons_succ]
                  refine wpAnyL_pure (i := 24) (oi := _) (v := undef) (some 118) rfl rfl (by kernel_rfl) (by kernel_rfl) (by kernel_rfl) (by kernel_rfl) (fun _ _ _ h => h) (fun _ => HS0.out) (Or.inr ⟨by rfl, rfl⟩) ?_
                  try simp only [Act.put, List.setIfInBounds_toArray, List.set_cons_zero, List.set_cons_succ]
                  refine wpAnyL_pure (i := 25) (oi := _) (v := undef) (some 119) rfl rfl (by kernel_rfl) (by kernel_rfl) (by kernel_rfl) (by kernel_rfl) (fun _ _ _ h => h) (fun _ => HS0.out) (Or.inr ⟨by rfl, rfl⟩) ?_
                  try simp only [Act.put, List.setIfInBounds_toArray, List.set_cons_zero, List.set_cons_succ]
                  refine wpAnyL_pure (i := 26) (oi := _) (v := undef) (some 120) rfl rfl (by kernel_rfl) (by kernel_rfl) (by kernel_rfl) (by kernel_rfl) (fun _ _ _ h => h) (fun _ => HS0.out) (Or.inr ⟨by rfl, rfl⟩) ?_
                  try simp only [Act.put, List.setIfInBounds_toArray, List.set_cons_zero, List.set_cons_succ]
                  refine wpAnyL_pure (i := 27) (oi := _) (v := undef) (some 121) rfl rfl (by kernel_rfl) (by kernel_rfl) (by kernel_rfl) (by kernel_rfl) (fun _ _ _ h => h) (fun _ => HS0.out) (Or.inr ⟨by rfl, rfl⟩) ?_
                  try simp only [Act.put, List.setIfInBounds_toArray, List.set_cons_zero, List.set_cons_succ]
                  refine wpAnyL_pure (i := 28) (oi := _) (v := undef) (some 122) rfl rfl (by kernel_rfl) (by kernel_rfl) (by kernel_rfl) (by kernel_rfl) (fun _ _ _ h => h) (fun _ => HS0.out) (Or.inr ⟨by rfl, rfl⟩) ?_
                  try simp only [Act.put, List.setIfInBounds_toArray, List.set_cons_zero, List.set_cons_succ]
                  refine wpAnyL_pure (i := 29) (oi := _) (v := undef) (some 123) rfl rfl (by kernel_rfl) (by kernel_rfl) (by kernel_rfl) (by kernel_rfl) (fun _ _ _ h => h) (fun _ => HS0.out) (Or.inr ⟨by rfl, rfl⟩) ?_
                  try simp only [Act.put, List.setIfInBounds_toArray, List.set_cons_zero, List.set_cons_succ]
                  refine wpAnyL_pure (i := 30) (oi := _) (v := undef) (some 124) rfl rfl (by kernel_rfl) (by kernel_rfl) (by kernel_rfl) (by kernel_rfl) (fun _ _ _ h => h) (fun _ => HS0.out) (Or.inr ⟨by rfl, rfl⟩) ?_
                  try simp only [Act.put, List.setIfInBounds_toArray, List.set_cons_zero, List.set_cons_succ]
                  refine wpAnyL_pure (i := 31) (oi := _) (v := undef) (some 125) rfl rfl (by kernel_rfl) (by kernel_rfl) (by kernel_rfl) (by kernel_rfl) (fun _ _ _ h => h) (fun _ => HS0.out) (Or.inr ⟨by rfl, rfl⟩) ?_
                  try simp only [Act.put, List.setIfInBounds_toArray, List.set_cons_zero, List.set_cons_succ]
                  refine wpAnyL_pure (i := 32) (oi := _) (v := undef) (some 126) rfl rfl (by kernel_rfl) (by kernel_rfl) (by kernel_rfl) (by kernel_rfl) (fun _ _ _ h => h) (fun _ => HS0.out) (Or.inr ⟨by rfl, rfl⟩) ?_
                  try simp only [Act.put, List.setIfInBounds_toArray, List.set_cons_zero, List.set_cons_succ]
                  refine wpAnyL_pure (i := 33) (oi := _) (v := undef) (some 127) rfl rfl (by kernel_rfl) (by kernel_rfl) (by kernel_rfl) (by kernel_rfl) (fun _ _ _ h => h) (fun _ => HS0.out) (Or.inr ⟨by rfl, rfl⟩) ?_
                  try simp only [Act.put, List.setIfInBounds_toArray, List.set_cons_zero, List.set_cons_succ]
                  refine wpAnyL_pure (i := 34) (oi := _) (v := undef) (some 128) rfl rfl (by kernel_rfl) (by kernel_rfl) (by kernel_rfl) (by kernel_rfl) (fun _ _ _ h => h) (fun _ => HS0.out) (Or.inr ⟨by rfl, rfl⟩) ?_
                  try simp only [Act.put, List.setIfInBounds_toArray, List.set_cons_zero, List.set_cons_succ]
                  refine wpAnyL_pure (i := 35) (oi := _) (v := undef) (some 129) rfl rfl (by kernel_rfl) (by kernel_rfl) (by kernel_rfl) (by kernel_rfl) (fun _ _ _ h => h) (fun _ => HS0.out) (Or.inr ⟨by rfl, rfl⟩) ?_
                  try simp only [Act.put, List.setIfInBounds_toArray, List.set_cons_zero, List.set_cons_succ]
                  refine wpAnyL_pure (i := 36) (oi := _) (v := undef) (some 130) rfl rfl (by kernel_rfl) (by kernel_rfl) (by kernel_rfl) (by kernel_rfl) (fun _ _ _ h => h) (fun _ => HS0.out) (Or.inr ⟨by rfl, rfl⟩) ?_
                  try simp only [Act.put, List.setIfInBounds_toArray, List.set_cons_zero, List.set_cons_succ]
                  refine wpAnyL_pure (i := 37) (oi := _) (v := undef) (some 131) rfl rfl (by kernel_rfl) (by kernel_rfl) (by kernel_rfl) (by kernel_rfl) (fun _ _ _ h => h) (fun _ => HS0.out) (Or.inr ⟨by rfl, rfl⟩) ?_
                  try simp only [Act.put, List.setIfInBounds_toArray, List.set_cons_zero, List.set_cons_succ]
                  refine wpAnyL_pure (i := 38) (oi := _) (v := undef) (some 132) rfl rfl (by kernel_rfl) (by kernel_rfl) (by kernel_rfl) (by kernel_rfl) (fun _ _ _ h => h) (fun _ => HS0.out) (Or.inr ⟨by rfl, rfl⟩) ?_
                  try simp only [Act.put, List.setIfInBounds_toArray, List.set_cons_zero, List.set_cons_succ]
                  refine wpAnyL_pure (i := 39) (oi := _) (v := undef) (some 133) rfl rfl (by kernel_rfl) (by kernel_rfl) (by kernel_rfl) (by kernel_rfl) (fun _ _ _ h => h) (fun _ => HS0.out) (Or.inr ⟨by rfl, rfl⟩) ?_
                  try simp only [Act.put, List.setIfInBounds_toArray, List.set_cons_zero, List.set_cons_succ]
                  refine wpAnyL_pure (i := 40) (oi := _) (v := undef) (some 134) rfl rfl (by kernel_rfl) (by kernel_rfl) (by kernel_rfl) (by kernel_rfl) (fun _ _ _ h => h) (fun _ => HS0.out) (Or.inr ⟨by rfl, rfl⟩) ?_
                  try simp only [Act.put, List.setIfInBounds_toArray, List.set_cons_zero, List.set_cons_succ]
                  refine wpAnyL_pure (i := 41) (oi := _) (v := undef) (some 135) rfl rfl (by kernel_rfl) (by kernel_rfl) (by kernel_rfl) (by kernel_rfl) (fun _ _ _ h => h) (fun _ => HS0.out) (Or.inr ⟨by rfl, rfl⟩) ?_
                  try simp only [Act.put, List.setIfInBounds_toArray, List.set_cons_zero, List.set_cons_succ]
                  refine wpAnyL_pure (i := 42) (oi := _) (v := undef) (some 136) rfl rfl (by kernel_rfl) (by kernel_rfl) (by kernel_rfl) (by kernel_rfl) (fun _ _ _ h => h) (fun _ => HS0.out) (Or.inr ⟨by rfl, rfl⟩) ?_
                  try simp only [Act.put, List.setIfInBounds_toArray, List.set_cons_zero, List.set_cons_succ]
                  refine wpAnyL_pure (i := 43) (oi := _) (v := ?_) (some 137) rfl rfl (by kernel_rfl) (by kernel_rfl) (by kernel_rfl) (by kernel_rfl) (fun _ _ _ h => h) (fun _ => HS0.out) (Or.inl ⟨by rfl, ?_⟩) ?_
                  rotate_left
                  · intro W hSw; go_simp; try with_reducible rfl
                  try simp only [Act.put, List.setIfInBounds_toArray, List.set_cons_zero, List.set_cons_succ]
                  refine wpAnyL_done (by kernel_rfl) ?_ _
                  go_wp2_with fail
                  go_ret
                  exact ⟨by rw [HV2.out, kidsB_no (i := 0) hlt (by rw [HKD.out]; exact HKV.out)]; rfl, bthen (bthen HB.out HBW.out) (Below.refl _ _).drew⟩
                · have hk0' : decide (k < 0) = false := decide_eq_false hk0
                  by_cases hkg : (g.length : Int) ≤ k
                  · have HKV := Lib.hid (show kidB g ⟨false, fn, xc, xk⟩ 0 k = false by simp [kidB]; intro h; omega)
                    clear hk0
                    go_wp2_with fail
                    have HS0 : Hid (∀ a, wr.drew.cell? a = wr.cell? a) := Lib.hid (fun _ => rfl)
                    refine wp_region_L (S := fun W => ∀ a, W.cell? a = wr.cell? a) (T := []) (by kernel_rfl) HS0.out (fun _ => ?_)
                    refine wpAnyL_pure (i := 0) (oi := _) (v := ?_) (some 94) rfl rfl (by kernel_rfl) (by kernel_rfl) (by kernel_rfl) (by kernel_rfl) (fun _ _ _ h => h) (fun _ => HS0.out) (Or.inl ⟨by rfl, ?_⟩) ?_
                    rotate_left
                    · intro W hSw; go_simp; try with_reducible rfl
                    try simp only [Act.put, List.setIfInBounds_toArray, List.set_cons_zero, List.set_cons_succ]
                    refine wpAnyL_pure (i := 1) (oi := _) (v := ?_) (some 95) rfl rfl (by kernel_rfl) (by kernel_rfl) (by kernel_rfl) (by kernel_rfl) (fun _ _ _ h => h) (fun _ => HS0.out) (Or.inl ⟨by rfl, ?_⟩) ?_
                    rotate_left
                    · intro W hSw; go_simp; try with_reducible rfl
                    try simp only [Act.put, List.setIfInBounds_toArray, List.set_cons_zero, List.set_cons_succ]
                    refine wpAnyL_pure (i := 2) (oi := _) (v := ?_) (some 96) rfl rfl (by kernel_rfl) (by kernel_rfl) (by kernel_rfl) (by kernel_rfl) (fun _ _ _ h => h) (fun _ => HS0.out) (Or.inl ⟨by rfl, ?_⟩) ?_
                    rotate_left
                    · intro W hSw; go_simp; try with_reducible rfl
                    try simp only [Act.put, List.setIfInBounds_toArray, List.set_cons_zero, List.set_cons_succ]
                    refine wpAnyL_pure (i := 3) (oi := _) (v := ?_) (some 97) rfl rfl (by kernel_rfl) (by kernel_rfl) (by kernel_rfl) (by kernel_rfl) (fun _ _ _ h => h) (fun _ => HS0.out) (Or.inl ⟨by rfl, ?_⟩) ?_
                    rotate_left
                    · intro W hSw; go_simp; try with_reducible rfl
                    try simp only [Act.put, List.setIfInBounds_toArray, List.set_cons_zero, List.set_cons_succ]
                    refine wpAnyL_pure (i := 4) (oi := _) (v := ?_) (some 98) rfl rfl (by kernel_rfl) (by kernel_rfl) (by kernel_rfl) (by kernel_rfl) (fun _ _ _ h => h) (fun _ => HS0.out) (Or.inl ⟨by rfl, ?_⟩) ?_
                    rotate_left
                    · intro W hSw; go_simp; try with_reducible rfl
                    try simp only [Act.put, List.setIfInBounds_toArray, List.set_cons_zero, List.set_cons_succ]
                    refine wpAnyL_load (i := 5) (oi := _) (v := ?_) (some 99) rfl rfl (by kernel_rfl) (by kernel_rfl) (by kernel_rfl) (by kernel_rfl) (fun _ _ _ h => h) (fun _ => HS0.out) (by kernel_rfl) (by kernel_rfl) (Or.inl ⟨by rfl, ?_⟩) ?_
                    rotate_left
                    · intro W hSw; go_simp; try with_reducible rfl
                    try simp only [Act.put, List.setIfInBounds_toArray, List.set_cons_zero, List.set_cons_succ]
                    refine wpAnyL_pure (i := 6) (oi := _) (v := ?_) (some 100) rfl rfl (by kernel_rfl) (by kernel_rfl) (by kernel_rfl) (by kernel_rfl) (fun _ _ _ h => h) (fun _ => HS0.out) (Or.inl ⟨by rfl, ?_⟩) ?_
                    rotate_left
                    · intro W hSw; go_simp; try with_reducible rfl
                    try simp only [Act.put, List.setIfInBounds_toArray, List.set_cons_zero, List.set_cons_succ]
                    refine wpAnyL_pure (i := 7) (oi := _) (v := ?_) (some 101) rfl rfl (by kernel_rfl) (by kernel_rfl) (by kernel_rfl) (by kernel_rfl) (fun _ _ _ h => h) (fun _ => HS0.out) (Or.inl ⟨by rfl, ?_⟩) ?_
                    rotate_left
                    · intro W hSw; go_simp; try with_reducible rfl
                    try simp only [Act.put, List.setIfInBounds_toArray, List.set_cons_zero, List.set_cons_succ]
                    refine wpAnyL_pure (i := 8) (oi := _) (v := ?_) (some 102) rfl rfl (by kernel_rfl) (by kernel_rfl) (by kernel_rfl) (by kernel_rfl) (fun _ _ _ h => h) (fun _ => HS0.out) (Or.inl ⟨by rfl, ?_⟩) ?_
                    rotate_left
                    · intro W hSw; go_simp; try with_reducible rfl
                    try simp only [Act.put, List.setIfInBounds_toArray, List.set_cons_zero, List.set_cons_succ]
                    refine wpAnyL_pure (i := 9) (oi := _) (v := ?_) (some 103) rfl rfl (by kernel_rfl) (by kernel_rfl) (by kernel_rfl) (by kernel_rfl) (fun _ _ _ h => h) (fun _ => HS0.out) (Or.inl ⟨by rfl, ?_⟩) ?_
                    rotate_left
                    · intro W hSw; go_simp; try with_reducible rfl
                    try simp only [Act.put, List.setIfInBounds_toArray, List.set_cons_zero, List.set_cons_succ]
                    refine wpAnyL_pure (i := 10) (oi := _) (v := undef) (some 104) rfl rfl (by kernel_rfl) (by kernel_rfl) (by kernel_rfl) (by kernel_rfl) (fun _ _ _ h => h) (fun _ => HS0.out) (Or.inr ⟨by rfl, rfl⟩) ?_
                    try simp only [Act.put, List.setIfInBounds_toArray, List.set_cons_zero, List.set_cons_succ]
                    refine wpAnyL_pure (i := 11) (oi := _) (v := undef) (some 105) rfl rfl (by kernel_rfl) (by kernel_rfl) (by kernel_rfl) (by kernel_rfl) (fun _ _ _ h => h) (fun _ => HS0.out) (Or.inr ⟨by rfl, rfl⟩) ?_
                    try simp only [Act.put, List.setIfInBounds_toArray, List.set_cons_zero, List.set_cons_succ]
                    refine wpAnyL_pure (i := 12) (oi := _) (v := undef) (some 106) rfl rfl (by kernel_rfl) (by kernel_rfl) (by kernel_rfl) (by kernel_rfl) (fun _ _ _ h => h) (fun _ => HS0.out) (Or.inr ⟨by rfl, rfl⟩) ?_
                    try simp only [Act.put, List.setIfInBounds_toArray, List.set_cons_zero, List.set_cons_succ]
                    refine wpAnyL_pure (i := 13) (oi := _) (v := undef) (some 107) rfl rfl (by kernel_rfl) (by kernel_rfl) (by kernel_rfl) (by kernel_rfl) (fun _ _ _ h => h) (fun _ => HS0.out) (Or.inr ⟨by rfl, rfl⟩) ?_
                    try simp only [Act.put, List.setIfInBounds_toArray, List.set_cons_zero, List.set_cons_succ]
                    refine wpAnyL_pure (i := 14) (oi := _) (v := undef) (some 108) rfl rfl (by kernel_rfl) (by kernel_rfl) (by kernel_rfl) (by kernel_rfl) (fun _ _ _ h => h) (fun _ => HS0.out) (Or.inr ⟨by rfl, rfl⟩) ?_
                    try simp only [Act.put, List.setIfInBounds_toArray, List.set_cons_zero, List.set_cons_succ]
                    refine wpAnyL_pure (i := 15) (oi := _) (v := undef) (some 109) rfl rfl (by kernel_rfl) (by kernel_rfl) (by kernel_rfl) (by kernel_rfl) (fun _ _ _ h => h) (fun _ => HS0.out) (Or.inr ⟨by rfl, rfl⟩) ?_
                    try simp only [Act.put, List.setIfInBounds_toArray, List.set_cons_zero, List.set_cons_succ]
                    refine wpAnyL_pure (i := 16) (oi := _) (v := undef) (some 110) rfl rfl (by kernel_rfl) (by kernel_rfl) (by kernel_rfl) (by kernel_rfl) (fun _ _ _ h => h) (fun _ => HS0.out) (Or.inr ⟨by rfl, rfl⟩) ?_
                    try simp only [Act.put, List.setIfInBounds_toArray, List.set_cons_zero, List.set_cons_succ]
                    refine wpAnyL_pure (i := 17) (oi := _) (v := undef) (some 111) rfl rfl (by kernel_rfl) (by kernel_rfl) (by kernel_rfl) (by kernel_rfl) (fun _ _ _ h => h) (fun _ => HS0.out) (Or.inr ⟨by rfl, rfl⟩) ?_
                    try simp only [Act.put, List.setIfInBounds_toArray, List.set_cons_zero, List.set_cons_succ]
                    refine wpAnyL_pure (i := 18) (oi := _) (v := undef) (some 112) rfl rfl (by kernel_rfl) (by kernel_rfl) (by kernel_rfl) (by kernel_rfl) (fun _ _ _ h => h) (fun _ => HS0.out) (Or.inr ⟨by rfl, rfl⟩) ?_
                    try simp only [Act.put, List.setIfInBounds_toArray, List.set_cons_zero, List.set_cons_succ]
                    refine wpAnyL_pure (i := 19) (oi := _) (v := undef) (some 113) rfl rfl (by kernel_rfl) (by kernel_rfl) (by kernel_rfl) (by kernel_rfl) (fun _ _ _ h => h) (fun _ => HS0.out) (Or.inr ⟨by rfl, rfl⟩) ?_
                    try simp only [Act.put, List.setIfInBounds_toArray, List.set_cons_zero, List.set_cons_succ]
                    refine wpAnyL_pure (i := 20) (oi := _) (v := undef) (some 114) rfl rfl (by kernel_rfl) (by kernel_rfl) (by kernel_rfl) (by kernel_rfl) (fun _ _ _ h => h) (fun _ => HS0.out) (Or.inr ⟨by rfl, rfl⟩) ?_
                    try simp only [Act.put, List.setIfInBounds_toArray, List.set_cons_zero, List.set_cons_succ]
                    refine wpAnyL_pure (i := 21) (oi := _) (v := undef) (some 115) rfl rfl (by kernel_rfl) (by kernel_rfl) (by kernel_rfl) (by kernel_rfl) (fun _ _ _ h => h) (fun _ => HS0.out) (Or.inr ⟨by rfl, rfl⟩) ?_
                    try simp only [Act.put, List.setIfInBounds_toArray, List.set_cons_zero, List.set_cons_succ]
                    refine wpAnyL_pure (i := 22) (oi := _) (v := ?_) (some 116) rfl rfl (by kernel_rfl) (by kernel_rfl) (by kernel_rfl) (by kernel_rfl) (fun _ _ _ h => h) (fun _ => HS0.out) (Or.inl ⟨by rfl, ?_⟩) ?_
                    rotate_left
                    · intro W hSw; go_simp; try with_reducible rfl
                    try simp only [Act.put, List.setIfInBounds_toArray, List.set_cons_zero, List.set_cons_succ]
                    refine wpAnyL_pure (i := 23) (oi := _) (v := ?_) (some 117) rfl rfl (by kernel_rfl) (by kernel_rfl) (by kernel_rfl) (by kernel_rfl) (fun _ _ _ h => h) (fun _ => HS0.out) (Or.inl ⟨by rfl, ?_⟩) ?_
                    rotate_left
                    · intro W hSw; go_simp; try with_reducible rfl
                    try simp only [Act.put, List.setIfInBounds_toArray, List.set_cons_zero, List.set_cons_succ]
                    refine wpAnyL_pure (i := 24) (oi := _) (v := undef) (some 118) rfl rfl (by kernel_rfl) (by kernel_rfl) (by kernel_rfl) (by kernel_rfl) (fun _ _ _ h => h) (fun _ => HS0.out) (Or.inr ⟨by rfl, rfl⟩) ?_
                    try simp only [Act.put, List.setIfInBounds_toArray, List.set_cons_zero, List.set_cons_succ]
                    refine wpAnyL_pure (i := 25) (oi := _) (v := undef) (some 119) rfl rfl (by kernel_rfl) (by kernel_rfl) (by kernel_rfl) (by kernel_rfl) (fun _ _ _ h => h) (fun _ => HS0.out) (Or.inr ⟨by rfl, rfl⟩) ?_
                    try simp only [Act.put, List.setIfInBounds_toArray, List.set_cons_zero, List.set_cons_succ]
                    refine wpAnyL_pure (i := 26) (oi := _) (v := undef) (some 120) rfl rfl (by kernel_rfl) (by kernel_rfl) (by kernel_rfl) (by kernel_rfl) (fun _ _ _ h => h) (fun _ => HS0.out) (Or.inr ⟨by rfl, rfl⟩) ?_
                    try simp only [Act.put, List.setIfInBounds_toArray, List.set_cons_zero, List.set_cons_succ]
                    refine wpAnyL_pure (i := 27) (oi := _) (v := undef) (some 121) rfl rfl (by kernel_rfl) (by kernel_rfl) (by kernel_rfl) (by kernel_rfl) (fun _ _ _ h => h) (fun _ => HS0.out) (Or.inr ⟨by rfl, rfl⟩) ?_
                    try simp only [Act.put, List.setIfInBounds_toArray, List.set_cons_zero, List.set_cons_succ]
                    refine wpAnyL_pure (i := 28) (oi := _) (v := undef) (some 122) rfl rfl (by kernel_rfl) (by kernel_rfl) (by kernel_rfl) (by kernel_rfl) (fun _ _ _ h => h) (fun _ => HS0.out) (Or.inr ⟨by rfl, rfl⟩) ?_
                    try simp only [Act.put, List.setIfInBounds_toArray, List.set_cons_zero, List.set_cons_succ]
                    refine wpAnyL_pure (i := 29) (oi := _) (v := undef) (some 123) rfl rfl (by kernel_rfl) (by kernel_rfl) (by kernel_rfl) (by kernel_rfl) (fun _ _ _ h => h) (fun _ => HS0.out) (Or.inr ⟨by rfl, rfl⟩) ?_
                    try simp only [Act.put, List.setIfInBounds_toArray, List.set_cons_zero, List.set_cons_succ]
                    refine wpAnyL_pure (i := 30) (oi := _) (v := undef) (some 124) rfl rfl (by kernel_rfl) (by kernel_rfl) (by kernel_rfl) (by kernel_rfl) (fun _ _ _ h => h) (fun _ => HS0.out) (Or.inr ⟨by rfl, rfl⟩) ?_
                    try simp only [Act.put, List.setIfInBounds_toArray, List.set_cons_zero, List.set_cons_succ]
                    refine wpAnyL_pure (i := 31) (oi := _) (v := undef) (some 125) rfl rfl (by kernel_rfl) (by kernel_rfl) (by kernel_rfl) (by kernel_rfl) (fun _ _ _ h => h) (fun _ => HS0.out) (Or.inr ⟨by rfl, rfl⟩) ?_
                    try simp only [Act.put, List.setIfInBounds_toArray, List.set_cons_zero, List.set_cons_succ]
                    refine wpAnyL_pure (i := 32) (oi := _) (v := undef) (some 126) rfl rfl (by kernel_rfl) (by kernel_rfl) (by kernel_rfl) (by kernel_rfl) (fun _ _ _ h => h) (fun _ => HS0.out) (Or.inr ⟨by rfl, rfl⟩) ?_
                    try simp only [Act.put, List.setIfInBounds_toArray, List.set_cons_zero, List.set_cons_succ]
                    refine wpAnyL_pure (i := 33) (oi := _) (v := undef) (some 127) rfl rfl (by kernel_rfl) (by kernel_rfl) (by kernel_rfl) (by kernel_rfl) (fun _ _ _ h => h) (fun _ => HS0.out) (Or.inr ⟨by rfl, rfl⟩) ?_
                    try simp only [Act.put, List.setIfInBounds_toArray, List.set_cons_zero, List.set_cons_succ]
                    refine wpAnyL_pure (i := 34) (oi := _) (v := undef) (some 128) rfl rfl (by kernel_rfl) (by kernel_rfl) (by kernel_rfl) (by kernel_rfl) (fun _ _ _ h => h) (fun _ => HS0.out) (Or.inr ⟨by rfl, rfl⟩) ?_
                    try simp only [Act.put, List.setIfInBounds_toArray, List.set_cons_zero, List.set_cons_succ]
                    refine wpAnyL_pure (i := 35) (oi := _) (v := undef) (some 129) rfl rfl (by kernel_rfl) (by kernel_rfl) (by kernel_rfl) (by kernel_rfl) (fun _ _ _ h => h) (fun _ => HS0.out) (Or.inr ⟨by rfl, rfl⟩) ?_
                    try simp only [Act.put, List.setIfInBounds_toArray, List.set_cons_zero, List.set_cons_succ]
                    refine wpAnyL_pure (i := 36) (oi := _) (v := undef) (some 130) rfl rfl (by kernel_rfl) (by kernel_rfl) (by kernel_rfl) (by kernel_rfl) (fun _ _ _ h => h) (fun _ => HS0.out) (Or.inr ⟨by rfl, rfl⟩) ?_
                    try simp only [Act.put, List.setIfInBounds_toArray, List.set_cons_zero, List.set_cons_succ]
                    refine wpAnyL_pure (i := 37) (oi := _) (v := undef) (some 131) rfl rfl (by kernel_rfl) (by kernel_rfl) (by kernel_rfl) (by kernel_rfl) (fun _ _ _ h => h) (fun _ => HS0.out) (Or.inr ⟨by rfl, rfl⟩) ?_
                    try simp only [Act.put, List.setIfInBounds_toArray, List.set_cons_zero, List.set_cons_succ]
                    refine wpAnyL_pure (i := 38) (oi := _) (v := undef) (some 132) rfl rfl (by kernel_rfl) (by kernel_rfl) (by kernel_rfl) (by kernel_rfl) (fun _ _ _ h => h) (fun _ => HS0.out) (Or.inr ⟨by rfl, rfl⟩) ?_
                    try simp only [Act.put, List.setIfInBounds_toArray, List.set_cons_zero, List.set_cons_succ]
                    refine wpAnyL_pure (i := 39) (oi := _) (v := undef) (some 133) rfl rfl (by kernel_rfl) (by kernel_rfl) (by kernel_rfl) (by kernel_rfl) (fun _ _ _ h => h) (fun _ => HS0.out) (Or.inr ⟨by rfl, rfl⟩) ?_
                    try simp only [Act.put, List.setIfInBounds_toArray, List.set_cons_zero, List.set_cons_succ]
                    refine wpAnyL_pure (i := 40) (oi := _) (v := undef) (some 134) rfl rfl (by kernel_rfl) (by kernel_rfl) (by kernel_rfl) (by kernel_rfl) (fun _ _ _ h => h) (fun _ => HS0.out) (Or.inr ⟨by rfl, rfl⟩) ?_
                    try simp only [Act.put, List.setIfInBounds_toArray, List.set_cons_zero, List.set_cons_succ]
                    refine wpAnyL_pure (i := 41) (oi := _) (v := undef) (some 135) rfl rfl (by kernel_rfl) (by kernel_rfl) (by kernel_rfl) (by kernel_rfl) (fun _ _ _ h => h) (fun _ => HS0.out) (Or.inr ⟨by rfl, rfl⟩) ?_
                    try simp only [Act.put, List.setIfInBounds_toArray, List.set_cons_zero, List.set_cons_succ]
                    refine wpAnyL_pure (i := 42) (oi := _) (v := undef) (some 136) rfl rfl (by kernel_rfl) (by kernel_rfl) (by kernel_rfl) (by kernel_rfl) (fun _ _ _ h => h) (fun _ => HS0.out) (Or.inr ⟨by rfl, rfl⟩) ?_
                    try simp only [Act.put, List.setIfInBounds_toArray, List.set_cons_zero, List.set_cons_succ]
                    refine wpAnyL_pure (i := 43) (oi := _) (v := ?_) (some 137) rfl rfl (by kernel_rfl) (by kernel_rfl) (by kernel_rfl) (by kernel_rfl) (fun _ _ _ h => h) (fun _ => HS0.out) (Or.inl ⟨by rfl, ?_⟩) ?_
                    rotate_left
                    · intro W hSw; go_simp; try with_reducible rfl
                    try simp only [Act.put, List.setIfInBounds_toArray, List.set_cons_zero, List.set_cons_succ]
                    refine wpAnyL_done (by kernel_rfl) ?_ _
                    go_wp2_with fail
                    go_ret
                    exact ⟨by rw [HV2.out, kidsB_no (i := 0) hlt (by rw [HKD.out]; exact HKV.out)]; rfl, bthen (bthen HB.out HBW.out) (Below.refl _ _).drew⟩
                  · have hkg' : decide ((g.length : Int) ≤ k) = false := decide_eq_false hkg
                    obtain ⟨kn, rfl⟩ : ∃ kn : Nat, k = kn := ⟨k.toNat, by omega⟩
                    have hkn : kn < g.length := by omega
                    have hkgN : decide (g.length ≤ kn) = false := decide_eq_false (by omega)
                    have hkgM : (g.length ≤ kn) = False := eq_false (by omega)
                    have hkg : (kn : Int) < (g.length : Int) := by omega
                    have hk0 : ¬ ((kn : Int) < 0) := by omega
                    obtain ⟨bz, oz, Az2, cz2, Az3, cz3, rfl, _, hbz, hNz, z0, z1, z2, z3⟩ := nd_cells (HG.out.keep (HB.out.trans (HBW.out.mono HB.out.size)).size (fun b hb _ => (HB.out.trans (HBW.out.mono HB.out.size)).block b hb) (fun _ hb hs => (⟨hs, hb⟩ : S _ ∧ _ < w.heap.size))) hkn
                    have HZ := Lib.hid (show ndAt g (kn : Int) = g[kn] by simp [ndAt, hkn])
                    generalize g[kn] = z at *
                    clear hNz z0 z2
                    by_cases h6 : 0 < z.kids.length
                    · have h6' : (0 : Int) < (z.kids.length : Int) := by omega
                      by_cases h7 : z.fact ≤ (fn : Int)
                      · have HKV := Lib.hid (show kidB g ⟨false, fn, xc, xk⟩ 0 (kn : Int) = false by simp [kidB, HZ.out, h6, h7])
                        clear hk0 hkg
                        go_wp2_with fail
                        have HS0 : Hid (∀ a, wr.drew.cell? a = wr.cell? a) := Lib.hid (fun _ => rfl)
                        refine wp_region_L (S := fun W => ∀ a, W.cell? a = wr.cell? a) (T := []) (by kernel_rfl) HS0.out (fun _ => ?_)
                        refine wpAnyL_pure (i := 0) (oi := _) (v := ?_) (some 94) rfl rfl (by kernel_rfl) (by kernel_rfl) (by kernel_rfl) (by kernel_rfl) (fun _ _ _ h => h) (fun _ => HS0.out) (Or.inl ⟨by rfl, ?_⟩) ?_
                        rotate_left
                        · intro W hSw; go_simp; try with_reducible rfl
                        try simp only [Act.put, List.setIfInBounds_toArray, List.set_cons_zero, List.set_cons_succ]
                        refine wpAnyL_pure (i := 1) (oi := _) (v := ?_) (some 95) rfl rfl (by kernel_rfl) (by kernel_rfl) (by kernel_rfl) (by kernel_rfl) (fun _ _ _ h => h) (fun _ => HS0.out) (Or.inl ⟨by rfl, ?_⟩) ?_
                        rotate_left
                        · intro W hSw; go_simp; try with_reducible rfl
                        try simp only [Act.put, List.setIfInBounds_toArray, List.set_cons_zero, List.set_cons_succ]
                        refine wpAnyL_pure (i := 2) (oi := _) (v := ?_) (some 96) rfl rfl (by kernel_rfl) (by kernel_rfl) (by kernel_rfl) (by kernel_rfl) (fun _ _ _ h => h) (fun _ => HS0.out) (Or.inl ⟨by rfl, ?_⟩) ?_
                        rotate_left
                        · intro W hSw; go_simp; try with_reducible rfl
                        try simp only [Act.put, List.setIfInBounds_toArray, List.set_cons_zero, List.set_cons_succ]
                        refine wpAnyL_pure (i := 3) (oi := _) (v := ?_) (some 97) rfl rfl (by kernel_rfl) (by kernel_rfl) (by kernel_rfl) (by kernel_rfl) (fun _ _ _ h => h) (fun _ => HS0.out) (Or.inl ⟨by rfl, ?_⟩) ?_
                        rotate_left
                        · intro W hSw; go_simp; try with_reducible rfl
                        try simp only [Act.put, List.setIfInBounds_toArray, List.set_cons_zero, List.set_cons_succ]
                        refine wpAnyL_pure (i := 4) (oi := _) (v := ?_) (some 98) rfl rfl (by kernel_rfl) (by kernel_rfl) (by kernel_rfl) (by kernel_rfl) (fun _ _ _ h => h) (fun _ => HS0.out) (Or.inl ⟨by rfl, ?_⟩) ?_
                        rotate_left
                        · intro W hSw; go_simp; try with_reducible rfl
                        try simp only [Act.put, List.setIfInBounds_toArray, List.set_cons_zero, List.set_cons_succ]
                        refine wpAnyL_load (i := 5) (oi := _) (v := ?_) (some 99) rfl rfl (by kernel_rfl) (by kernel_rfl) (by kernel_rfl) (by kernel_rfl) (fun _ _ _ h => h) (fun _ => HS0.out) (by kernel_rfl) (by kernel_rfl) (Or.inl ⟨by rfl, ?_⟩) ?_
                        rotate_left
                        · intro W hSw; go_simp; try with_reducible rfl
                        try simp only [Act.put, List.setIfInBounds_toArray, List.set_cons_zero, List.set_cons_succ]
                        refine wpAnyL_pure (i := 6) (oi := _) (v := ?_) (some 100) rfl rfl (by kernel_rfl) (by kernel_rfl) (by kernel_rfl) (by kernel_rfl) (fun _ _ _ h => h) (fun _ => HS0.out) (Or.inl ⟨by rfl, ?_⟩) ?_
                        rotate_left
                        · intro W hSw; go_simp; try with_reducible rfl
                        try simp only [Act.put, List.setIfInBounds_toArray, List.set_cons_zero, List.set_cons_succ]
                        refine wpAnyL_pure (i := 7) (oi := _) (v := ?_) (some 101) rfl rfl (by kernel_rfl) (by kernel_rfl) (by kernel_rfl) (by kernel_rfl) (fun _ _ _ h => h) (fun _ => HS0.out) (Or.inl ⟨by rfl, ?_⟩) ?_
                        rotate_left
                        · intro W hSw; go_simp; try with_reducible rfl
                        try simp only [Act.put, List.setIfInBounds_toArray, List.set_cons_zero, List.set_cons_succ]
                        refine wpAnyL_pure (i := 8) (oi := _) (v := ?_) (some 102) rfl rfl (by kernel_rfl) (by kernel_rfl) (by kernel_rfl) (by kernel_rfl) (fun _ _ _ h => h) (fun _ => HS0.out) (Or.inl ⟨by rfl, ?_⟩) ?_
                        rotate_left
                        · intro W hSw; go_simp; try with_reducible rfl
                        try simp only [Act.put, List.setIfInBounds_toArray, List.set_cons_zero, List.set_cons_succ]
                        refine wpAnyL_pure (i := 9) (oi := _) (v := ?_) (some 103) rfl rfl (by kernel_rfl) (by kernel_rfl) (by kernel_rfl) (by kernel_rfl) (fun _ _ _ h => h) (fun _ => HS0.out) (Or.inl ⟨by rfl, ?_⟩) ?_
                        rotate_left
                        · intro W hSw; go_simp; try with_reducible rfl
                        try simp only [Act.put, List.setIfInBounds_toArray, List.set_cons_zero, List.set_cons_succ]
                        refine wpAnyL_pure (i := 10) (oi := _) (v := ?_) (some 104) rfl rfl (by kernel_rfl) (by kernel_rfl) (by kernel_rfl) (by kernel_rfl) (fun _ _ _ h => h) (fun _ => HS0.out) (Or.inl ⟨by rfl, ?_⟩) ?_
                        rotate_left
                        · intro W hSw; go_simp; try with_reducible rfl
                        try simp only [Act.put, List.setIfInBounds_toArray, List.set_cons_zero, List.set_cons_succ]
                        refine wpAnyL_pure (i := 11) (oi := _) (v := ?_) (some 105) rfl rfl (by kernel_rfl) (by kernel_rfl) (by kernel_rfl) (by kernel_rfl) (fun _ _ _ h => h) (fun _ => HS0.out) (Or.inl ⟨by rfl, ?_⟩) ?_
                        rotate_left
                        · intro W hSw; go_simp; try with_reducible rfl
                        try simp only [Act.put, List.setIfInBounds_toArray, List.set_cons_zero, List.set_cons_succ]
                        refine wpAnyL_pure (i := 12) (oi := _) (v := ?_) (some 106) rfl rfl (by kernel_rfl) (by kernel_rfl) (by kernel_rfl) (by kernel_rfl) (fun _ _ _ h => h) (fun _ => HS0.out) (Or.inl ⟨by rfl, ?_⟩) ?_
                        rotate_left
                        · intro W hSw; go_simp; try with_reducible rfl
                        try simp only [Act.put, List.setIfInBounds_toArray, List.set_cons_zero, List.set_cons_succ]
                        refine wpAnyL_pure (i := 13) (oi := _) (v := undef) (some 107) rfl rfl (by kernel_rfl) (by kernel_rfl) (by kernel_rfl) (by kernel_rfl) (fun _ _ _ h => h) (fun _ => HS0.out) (Or.inr ⟨by rfl, rfl⟩) ?_
                        try simp only [Act.put, List.setIfInBounds_toArray, List.set_cons_zero, List.set_cons_succ]
                        refine wpAnyL_pure (i := 14) (oi := _) (v := undef) (some 108) rfl rfl (by kernel_rfl) (by kernel_rfl) (by kernel_rfl) (by kernel_rfl) (fun _ _ _ h => h) (fun _ => HS0.out) (Or.inr ⟨by rfl, rfl⟩) ?_
                        try simp only [Act.put, List.setIfInBounds_toArray, List.set_cons_zero, List.set_cons_succ]
                        refine wpAnyL_pure (i := 15) (oi := _) (v := undef) (some 109) rfl rfl (by kernel_rfl) (by kernel_rfl) (by kernel_rfl) (by kernel_rfl) (fun _ _ _ h => h) (fun _ => HS0.out) (Or.inr ⟨by rfl, rfl⟩) ?_
                        try simp only [Act.put, List.setIfInBounds_toArray, List.set_cons_zero, List.set_cons_succ]
                        refine wpAnyL_pure (i := 16) (oi := _) (v := undef) (some 110) rfl rfl (by kernel_rfl) (by kernel_rfl) (by kernel_rfl) (by kernel_rfl) (fun _ _ _ h => h) (fun _ => HS0.out) (Or.inr ⟨by rfl, rfl⟩) ?_
                        try simp only [Act.put, List.setIfInBounds_toArray, List.set_cons_zero, List.set_cons_succ]
                        refine wpAnyL_pure (i := 17) (oi := _) (v := undef) (some 111) rfl rfl (by kernel_rfl) (by kernel_rfl) (by kernel_rfl) (by kernel_rfl) (fun _ _ _ h => h) (fun _ => HS0.out) (Or.inr ⟨by rfl, rfl⟩) ?_
                        try simp only [Act.put, List.setIfInBounds_toArray, List.set_cons_zero, List.set_cons_succ]
                        refine wpAnyL_pure (i := 18) (oi := _) (v := undef) (some 112) rfl rfl (by kernel_rfl) (by kernel_rfl) (by kernel_rfl) (by kernel_rfl) (fun _ _ _ h => h) (fun _ => HS0.out) (Or.inr ⟨by rfl, rfl⟩) ?_
                        try simp only [Act.put, List.setIfInBounds_toArray, List.set_cons_zero, List.set_cons_succ]
                        refine wpAnyL_pure (i := 19) (oi := _) (v := undef) (some 113) rfl rfl (by kernel_rfl) (by kernel_rfl) (by kernel_rfl) (by kernel_rfl) (fun _ _ _ h => h) (fun _ => HS0.out) (Or.inr ⟨by rfl, rfl⟩) ?_
                        try simp only [Act.put, List.setIfInBounds_toArray, List.set_cons_zero, List.set_cons_succ]
                        refine wpAnyL_pure (i := 20) (oi := _) (v := undef) (some 114) rfl rfl (by kernel_rfl) (by kernel_rfl) (by kernel_rfl) (by kernel_rfl) (fun _ _ _ h => h) (fun _ => HS0.out) (Or.inr ⟨by rfl, rfl⟩) ?_
                        try simp only [Act.put, List.setIfInBounds_toArray, List.set_cons_zero, List.set_cons_succ]
                        refine wpAnyL_pure (i := 21) (oi := _) (v := ?_) (some 115) rfl rfl (by kernel_rfl) (by kernel_rfl) (by kernel_rfl) (by kernel_rfl) (fun _ _ _ h => h) (fun _ => HS0.out) (Or.inl ⟨by rfl, ?_⟩) ?_
                        rotate_left
                        · intro W hSw; go_simp; try with_reducible rfl
                        try simp only [Act.put, List.setIfInBounds_toArray, List.set_cons_zero, List.set_cons_succ]
                        refine wpAnyL_pure (i := 22) (oi := _) (v := ?_) (some 116) rfl rfl (by kernel_rfl) (by kernel_rfl) (by kernel_rfl) (by kernel_rfl) (fun _ _ _ h => h) (fun _ => HS0.out) (Or.inl ⟨by rfl, ?_⟩) ?_
                        rotate_left
                        · intro W hSw; go_simp; try with_reducible rfl
                        try simp only [Act.put, List.setIfInBounds_toArray, List.set_cons_zero, List.set_cons_succ]
                        refine wpAnyL_pure (i := 23) (oi := _) (v := ?_) (some 117) rfl rfl (by kernel_rfl) (by kernel_rfl) (by kernel_rfl) (by kernel_rfl) (fun _ _ _ h => h) (fun _ => HS0.out) (Or.inl ⟨by rfl, ?_⟩) ?_
                        rotate_left
                        · intro W hSw; go_simp; try with_reducible rfl
                        try simp only [Act.put, List.setIfInBounds_toArray, List.set_cons_zero, List.set_cons_succ]
                        refine wpAnyL_pure (i := 24) (oi := _) (v := ?_) (some 118) rfl rfl (by kernel_rfl) (by kernel_rfl) (by kernel_rfl) (by kernel_rfl) (fun _ _ _ h => h) (fun _ => HS0.out) (Or.inl ⟨by rfl, ?_⟩) ?_
                        rotate_left
                        · intro W hSw; go_simp; try with_reducible rfl
                        try simp only [Act.put, List.setIfInBounds_toArray, List.set_cons_zero, List.set_cons_succ]
                        refine wpAnyL_load (i := 25) (oi := _) (v := ?_) (some 119) rfl rfl (by kernel_rfl) (by kernel_rfl) (by kernel_rfl) (by kernel_rfl) (fun _ _ _ h => h) (fun _ => HS0.out) (by kernel_rfl) (by kernel_rfl) (Or.inl ⟨by rfl, ?_⟩) ?_
                        rotate_left
                        · intro W hSw; go_simp; try with_reducible rfl
                        try simp only [Act.put, List.setIfInBounds_toArray, List.set_cons_zero, List.set_cons_succ]
                        refine wpAnyL_pure (i := 26) (oi := _) (v := ?_) (some 120) rfl rfl (by kernel_rfl) (by kernel_rfl) (by kernel_rfl) (by kernel_rfl) (fun _ _ _ h => h) (fun _ => HS0.out) (Or.inl ⟨by rfl, ?_⟩) ?_
                        rotate_left
                        · intro W hSw; go_simp; try with_reducible rfl
                        try simp only [Act.put, List.setIfInBounds_toArray, List.set_cons_zero, List.set_cons_succ]
                        refine wpAnyL_pure (i := 27) (oi := _) (v := ?_) (some 121) rfl rfl (by kernel_rfl) (by kernel_rfl) (by kernel_rfl) (by kernel_rfl) (fun _ _ _ h => h) (fun _ => HS0.out) (Or.inl ⟨by rfl, ?_⟩) ?_
                        rotate_left
                        · intro W hSw; go_simp; try with_reducible rfl
                        try simp only [Act.put, List.setIfInBounds_toArray, List.set_cons_zero, List.set_cons_succ]
                        refine wpAnyL_pure (i := 28) (oi := _) (v := ?_) (some 122) rfl rfl (by kernel_rfl) (by kernel_rfl) (by kernel_rfl) (by kernel_rfl) (fun _ _ _ h => h) (fun _ => HS0.out) (Or.inl ⟨by rfl, ?_⟩) ?_
                        rotate_left
                        · intro W hSw; go_simp; try with_reducible rfl
                        try simp only [Act.put, List.setIfInBounds_toArray, List.set_cons_zero, List.set_cons_succ]
                        refine wpAnyL_load (i := 29) (oi := _) (v := ?_) (some 123) rfl rfl (by kernel_rfl) (by kernel_rfl) (by kernel_rfl) (by kernel_rfl) (fun _ _ _ h => h) (fun _ => HS0.out) (by kernel_rfl) (by kernel_rfl) (Or.inl ⟨by rfl, ?_⟩) ?_
                        rotate_left
                        · intro W hSw; go_simp; try with_reducible rfl
                        try simp only [Act.put, List.setIfInBounds_toArray, List.set_cons_zero, List.set_cons_succ]
                        refine wpAnyL_pure (i := 30) (oi := _) (v := ?_) (some 124) rfl rfl (by kernel_rfl) (by kernel_rfl) (by kernel_rfl) (by kernel_rfl) (fun _ _ _ h => h) (fun _ => HS0.out) (Or.inl ⟨by rfl, ?_⟩) ?_
                        rotate_left
                        · intro W hSw; go_simp; try with_reducible rfl
                        try simp only [Act.put, List.setIfInBounds_toArray, List.set_cons_zero, List.set_cons_succ]
                        refine wpAnyL_pure (i := 31) (oi := _) (v := ?_) (some 125) rfl rfl (by kernel_rfl) (by kernel_rfl) (by kernel_rfl) (by kernel_rfl) (fun _ _ _ h => h) (fun _ => HS0.out) (Or.inl ⟨by rfl, ?_⟩) ?_
                        rotate_left
                        · intro W hSw; go_simp; try with_reducible rfl
                        try simp only [Act.put, List.setIfInBounds_toArray, List.set_cons_zero, List.set_cons_succ]
                        refine wpAnyL_pure (i := 32) (oi := _) (v := ?_) (some 126) rfl rfl (by kernel_rfl) (by kernel_rfl) (by kernel_rfl) (by kernel_rfl) (fun _ _ _ h => h) (fun _ => HS0.out) (Or.inl ⟨by rfl, ?_⟩) ?_
                        rotate_left
                        · intro W hSw; go_simp; try with_reducible rfl
                        try simp only [Act.put, List.setIfInBounds_toArray, List.set_cons_zero, List.set_cons_succ]
                        refine wpAnyL_pure (i := 33) (oi := _) (v := ?_) (some 127) rfl rfl (by kernel_rfl) (by kernel_rfl) (by kernel_rfl) (by kernel_rfl) (fun _ _ _ h => h) (fun _ => HS0.out) (Or.inl ⟨by rfl, ?_⟩) ?_
                        rotate_left
                        · intro W hSw; go_simp; try with_reducible rfl
                        try simp only [Act.put, List.setIfInBounds_toArray, List.set_cons_zero, List.set_cons_succ]
                        refine wpAnyL_load (i := 34) (oi := _) (v := ?_) (some 128) rfl rfl (by kernel_rfl) (by kernel_rfl) (by kernel_rfl) (by kernel_rfl) (fun _ _ _ h => h) (fun _ => HS0.out) (by kernel_rfl) (by kernel_rfl) (Or.inl ⟨by rfl, ?_⟩) ?_
                        rotate_left
                        · intro W hSw; go_simp; try with_reducible rfl
                        try simp only [Act.put, List.setIfInBounds_toArray, List.set_cons_zero, List.set_cons_succ]
                        refine wpAnyL_pure (i := 35) (oi := _) (v := ?_) (some 129) rfl rfl (by kernel_rfl) (by kernel_rfl) (by kernel_rfl) (by kernel_rfl) (fun _ _ _ h => h) (fun _ => HS0.out) (Or.inl ⟨by rfl, ?_⟩) ?_
                        rotate_left
                        · intro W hSw; go_simp; try with_reducible rfl
                        try simp only [Act.put, List.setIfInBounds_toArray, List.set_cons_zero, List.set_cons_succ]
                        refine wpAnyL_pure (i := 36) (oi := _) (v := ?_) (some 130) rfl rfl (by kernel_rfl) (by kernel_rfl) (by kernel_rfl) (by kernel_rfl) (fun _ _ _ h => h) (fun _ => HS0.out) (Or.inl ⟨by rfl, ?_⟩) ?_
                        rotate_left
                        · intro W hSw; go_simp; try with_reducible rfl
                        try simp only [Act.put, List.setIfInBounds_toArray, List.set_cons_zero, List.set_cons_succ]
                        refine wpAnyL_pure (i := 37) (oi := _) (v := ?_) (some 131) rfl rfl (by kernel_rfl) (by kernel_rfl) (by kernel_rfl) (by kernel_rfl) (fun _ _ _ h => h) (fun _ => HS0.out) (Or.inl ⟨by rfl, ?_⟩) ?_
                        rotate_left
                        · intro W hSw; go_simp; try with_reducible rfl
                        try simp only [Act.put, List.setIfInBounds_toArray, List.set_cons_zero, List.set_cons_succ]
                        refine wpAnyL_load (i := 38) (oi := _) (v := ?_) (some 132) rfl rfl (by kernel_rfl) (by kernel_rfl) (by kernel_rfl) (by kernel_rfl) (fun _ _ _ h => h) (fun _ => HS0.out) (by kernel_rfl) (by kernel_rfl) (Or.inl ⟨by rfl, ?_⟩) ?_
                        rotate_left
                        · intro W hSw; go_simp; try with_reducible rfl
                        try simp only [Act.put, List.setIfInBounds_toArray, List.set_cons_zero, List.set_cons_succ]
                        refine wpAnyL_pure (i := 39) (oi := _) (v := ?_) (some 133) rfl rfl (by kernel_rfl) (by kernel_rfl) (by kernel_rfl) (by kernel_rfl) (fun _ _ _ h => h) (fun _ => HS0.out) (Or.inl ⟨by rfl, ?_⟩) ?_
                        rotate_left
                        · intro W hSw; go_simp; try with_reducible rfl
                        try simp only [Act.put, List.setIfInBounds_toArray, List.set_cons_zero, List.set_cons_succ]
                        refine wpAnyL_load (i := 40) (oi := _) (v := ?_) (some 134) rfl rfl (by kernel_rfl) (by kernel_rfl) (by kernel_rfl) (by kernel_rfl) (fun _ _ _ h => h) (fun _ => HS0.out) (by kernel_rfl) (by kernel_rfl) (Or.inl ⟨by rfl, ?_⟩) ?_
                        rotate_left
                        · intro W hSw; go_simp; try with_reducible rfl
                        try simp only [Act.put, List.setIfInBounds_toArray, List.set_cons_zero, List.set_cons_succ]
                        refine wpAnyL_pure (i := 41) (oi := _) (v := ?_) (some 135) rfl rfl (by kernel_rfl) (by kernel_rfl) (by kernel_rfl) (by kernel_rfl) (fun _ _ _ h => h) (fun _ => HS0.out) (Or.inl ⟨by rfl, ?_⟩) ?_
                        rotate_left
                        · intro W hSw; go_simp; try with_reducible rfl
                        try simp only [Act.put, List.setIfInBounds_toArray, List.set_cons_zero, List.set_cons_succ]
                        refine wpAnyL_pure (i := 42) (oi := _) (v := ?_) (some 136) rfl rfl (by kernel_rfl) (by kernel_rfl) (by kernel_rfl) (by kernel_rfl) (fun _ _ _ h => h) (fun _ => HS0.out) (Or.inl ⟨by rfl, ?_⟩) ?_
                        rotate_left
                        · intro W hSw; go_simp; try with_reducible rfl
                        try simp only [Act.put, List.setIfInBounds_toArray, List.set_cons_zero, List.set_cons_succ]
                        refine wpAnyL_pure (i := 43) (oi := _) (v := ?_) (some 137) rfl rfl (by kernel_rfl) (by kernel_rfl) (by kernel_rfl) (by kernel_rfl) (fun _ _ _ h => h) (fun _ => HS0.out) (Or.inl ⟨by rfl, ?_⟩) ?_
                        rotate_left
                        · intro W hSw; go_simp; try with_reducible rfl
                        try simp only [Act.put, List.setIfInBounds_toArray, List.set_cons_zero, List.set_cons_succ]
                        refine wpAnyL_done (by kernel_rfl) ?_ _
                        go_wp2_with fail
                        go_ret
                        exact ⟨by rw [HV2.out, kidsB_no (i := 0) hlt (by rw [HKD.out]; exact HKV.out)]; rfl, bthen (bthen HB.out HBW.out) (Below.refl _ _).drew⟩
                      · have h7' : decide (z.fact ≤ (fn : Int)) = false := decide_eq_false h7
                        have HKV := Lib.hid (show kidB g ⟨false, fn, xc, xk⟩ 0 (kn : Int) = true by simp [kidB, HZ.out, hk0, hkg, h7])
                        clear h7 hk0 hkg
                        go_wp2_with fail
                        have HS0 : Hid (∀ a, wr.drew.cell? a = wr.cell? a) := Lib.hid (fun _ => rfl)
                        refine wp_region_L (S := fun W => ∀ a, W.cell? a = wr.cell? a) (T := []) (by kernel_rfl) HS0.out (fun _ => ?_)
                        refine wpAnyL_pure (i := 0) (oi := _) (v := ?_) (some 94) rfl rfl (by kernel_rfl) (by kernel_rfl) (by kernel_rfl) (by kernel_rfl) (fun _ _ _ h => h) (fun _ => HS0.out) (Or.inl ⟨by rfl, ?_⟩) ?_
                        rotate_left
                        · intro W hSw; go_simp; try with_reducible rfl
                        try simp only [Act.put, List.setIfInBounds_toArray, List.set_cons_zero, List.set_cons_succ]
                        refine wpAnyL_pure (i := 1) (oi := _) (v := ?_) (some 95) rfl rfl (by kernel_rfl) (by kernel_rfl) (by kernel_rfl) (by kernel_rfl) (fun _ _ _ h => h) (fun _ => HS0.out) (Or.inl ⟨by rfl, ?_⟩) ?_
                        rotate_left
                        · intro W hSw; go_simp; try with_reducible rfl
                        try simp only [Act.put, List.setIfInBounds_toArray, List.set_cons_zero, List.set_cons_succ]
                        refine wpAnyL_pure (i := 2) (oi := _) (v := ?_) (some 96) rfl rfl (by kernel_rfl) (by kernel_rfl) (by kernel_rfl) (by kernel_rfl) (fun _ _ _ h => h) (fun _ => HS0.out) (Or.inl ⟨by rfl, ?_⟩) ?_
                        rotate_left
                        · intro W hSw; go_simp; try with_reducible rfl
                        try simp only [Act.put, List.setIfInBounds_toArray, List.set_cons_zero, List.set_cons_succ]
                        refine wpAnyL_pure (i := 3) (oi := _) (v := ?_) (some 97) rfl rfl (by kernel_rfl) (by kernel_rfl) (by kernel_rfl) (by kernel_rfl) (fun _ _ _ h => h) (fun _ => HS0.out) (Or.inl ⟨by rfl, ?_⟩) ?_
                        rotate_left
                        · intro W hSw; go_simp; try with_reducible rfl
                        try simp only [Act.put, List.setIfInBounds_toArray, List.set_cons_zero, List.set_cons_succ]
                        refine wpAnyL_pure (i := 4) (oi := _) (v := ?_) (some 98) rfl rfl (by kernel_rfl) (by kernel_rfl) (by kernel_rfl) (by kernel_rfl) (fun _ _ _ h => h) (fun _ => HS0.out) (Or.inl ⟨by rfl, ?_⟩) ?_
                        rotate_left
                        · intro W hSw; go_simp; try with_reducible rfl
                        try simp only [Act.put, List.setIfInBounds_toArray, List.set_cons_zero, List.set_cons_succ]
                        refine wpAnyL_load (i := 5) (oi := _) (v := ?_) (some 99) rfl rfl (by kernel_rfl) (by kernel_rfl) (by kernel_rfl) (by kernel_rfl) (fun _ _ _ h => h) (fun _ => HS0.out) (by kernel_rfl) (by kernel_rfl) (Or.inl ⟨by rfl, ?_⟩) ?_
                        rotate_left
                        · intro W hSw; go_simp; try with_reducible rfl
                        try simp only [Act.put, List.setIfInBounds_toArray, List.set_cons_zero, List.set_cons_succ]
                        refine wpAnyL_pure (i := 6) (oi := _) (v := ?_) (some 100) rfl rfl (by kernel_rfl) (by kernel_rfl) (by kernel_rfl) (by kernel_rfl) (fun _ _ _ h => h) (fun _ => HS0.out) (Or.inl ⟨by rfl, ?_⟩) ?_
                        rotate_left
                        · intro W hSw; go_simp; try with_reducible rfl
                        try simp only [Act.put, List.setIfInBounds_toArray, List.set_cons_zero, List.set_cons_succ]
                        refine wpAnyL_pure (i := 7) (oi := _) (v := ?_) (some 101) rfl rfl (by kernel_rfl) (by kernel_rfl) (by kernel_rfl) (by kernel_rfl) (fun _ _ _ h => h) (fun _ => HS0.out) (Or.inl ⟨by rfl, ?_⟩) ?_
                        rotate_left
                        · intro W hSw; go_simp; try with_reducible rfl
                        try simp only [Act.put, List.setIfInBounds_toArray, List.set_cons_zero, List.set_cons_succ]
                        refine wpAnyL_pure (i := 8) (oi := _) (v := ?_) (some 102) rfl rfl (by kernel_rfl) (by kernel_rfl) (by kernel_rfl) (by kernel_rfl) (fun _ _ _ h => h) (fun _ => HS0.out) (Or.inl ⟨by rfl, ?_⟩) ?_
                        rotate_left
                        · intro W hSw; go_simp; try with_reducible rfl
                        try simp only [Act.put, List.setIfInBounds_toArray, List.set_cons_zero, List.set_cons_succ]
                        refine wpAnyL_pure (i := 9) (oi := _) (v := ?_) (some 103) rfl rfl (by kernel_rfl) (by kernel_rfl) (by kernel_rfl) (by kernel_rfl) (fun _ _ _ h => h) (fun _ => HS0.out) (Or.inl ⟨by rfl, ?_⟩) ?_
                        rotate_left
                        · intro W hSw; go_simp; try with_reducible rfl
                        try simp only [Act.put, List.setIfInBounds_toArray, List.set_cons_zero, List.set_cons_succ]
                        refine wpAnyL_pure (i := 10) (oi := _) (v := ?_) (some 104) rfl rfl (by kernel_rfl) (by kernel_rfl) (by kernel_rfl) (by kernel_rfl) (fun _ _ _ h => h) (fun _ => HS0.out) (Or.inl ⟨by rfl, ?_⟩) ?_
                        rotate_left
                        · intro W hSw; go_simp; try with_reducible rfl
                        try simp only [Act.put, List.setIfInBounds_toArray, List.set_cons_zero, List.set_cons_succ]
                        refine wpAnyL_pure (i := 11) (oi := _) (v := ?_) (some 105) rfl rfl (by kernel_rfl) (by kernel_rfl) (by kernel_rfl) (by kernel_rfl) (fun _ _ _ h => h) (fun _ => HS0.out) (Or.inl ⟨by rfl, ?_⟩) ?_
                        rotate_left
                        · intro W hSw; go_simp; try with_reducible rfl
                        try simp only [Act.put, List.setIfInBounds_toArray, List.set_cons_zero, List.set_cons_succ]
                        refine wpAnyL_pure (i := 12) (oi := _) (v := ?_) (some 106) rfl rfl (by kernel_rfl) (by kernel_rfl) (by kernel_rfl) (by kernel_rfl) (fun _ _ _ h => h) (fun _ => HS0.out) (Or.inl ⟨by rfl, ?_⟩) ?_
                        rotate_left
                        · intro W hSw; go_simp; try with_reducible rfl
                        try simp only [Act.put, List.setIfInBounds_toArray, List.set_cons_zero, List.set_cons_succ]
                        refine wpAnyL_pure (i := 13) (oi := _) (v := undef) (some 107) rfl rfl (by kernel_rfl) (by kernel_rfl) (by kernel_rfl) (by kernel_rfl) (fun _ _ _ h => h) (fun _ => HS0.out) (Or.inr ⟨by rfl, rfl⟩) ?_
                        try simp only [Act.put, List.setIfInBounds_toArray, List.set_cons_zero, List.set_cons_succ]
                        refine wpAnyL_pure (i := 14) (oi := _) (v := undef) (some 108) rfl rfl (by kernel_rfl) (by kernel_rfl) (by kernel_rfl) (by kernel_rfl) (fun _ _ _ h => h) (fun _ => HS0.out) (Or.inr ⟨by rfl, rfl⟩) ?_
                        try simp only [Act.put, List.setIfInBounds_toArray, List.set_cons_zero, List.set_cons_succ]
                        refine wpAnyL_pure (i := 15) (oi := _) (v := undef) (some 109) rfl rfl (by kernel_rfl) (by kernel_rfl) (by kernel_rfl) (by kernel_rfl) (fun _ _ _ h => h) (fun _ => HS0.out) (Or.inr ⟨by rfl, rfl⟩) ?_
                        try simp only [Act.put, List.setIfInBounds_toArray, List.set_cons_zero, List.set_cons_succ]
                        refine wpAnyL_pure (i := 16) (oi := _) (v := undef) (some 110) rfl rfl (by kernel_rfl) (by kernel_rfl) (by kernel_rfl) (by kernel_rfl) (fun _ _ _ h => h) (fun _ => HS0.out) (Or.inr ⟨by rfl, rfl⟩) ?_
                        try simp only [Act.put, List.setIfInBounds_toArray, List.set_cons_zero, List.set_cons_succ]
                        refine wpAnyL_pure (i := 17) (oi := _) (v := undef) (some 111) rfl rfl (by kernel_rfl) (by kernel_rfl) (by kernel_rfl) (by kernel_rfl) (fun _ _ _ h => h) (fun _ => HS0.out) (Or.inr ⟨by rfl, rfl⟩) ?_
                        try simp only [Act.put, List.setIfInBounds_toArray, List.set_cons_zero, List.set_cons_succ]
                        refine wpAnyL_pure (i := 18) (oi := _) (v := undef) (some 112) rfl rfl (by kernel_rfl) (by kernel_rfl) (by kernel_rfl) (by kernel_rfl) (fun _ _ _ h => h) (fun _ => HS0.out) (Or.inr ⟨by rfl, rfl⟩) ?_
                        try simp only [Act.put, List.setIfInBounds_toArray, List.set_cons_zero, List.set_cons_succ]
                        refine wpAnyL_pure (i := 19) (oi := _) (v := undef) (some 113) rfl rfl (by kernel_rfl) (by kernel_rfl) (by kernel_rfl) (by kernel_rfl) (fun _ _ _ h => h) (fun _ => HS0.out) (Or.inr ⟨by rfl, rfl⟩) ?_
                        try simp only [Act.put, List.setIfInBounds_toArray, List.set_cons_zero, List.set_cons_succ]
                        refine wpAnyL_pure (i := 20) (oi := _) (v := undef) (some 114) rfl rfl (by kernel_rfl) (by kernel_rfl) (by kernel_rfl) (by kernel_rfl) (fun _ _ _ h => h) (fun _ => HS0.out) (Or.inr ⟨by rfl, rfl⟩) ?_
                        try simp only [Act.put, List.setIfInBounds_toArray, List.set_cons_zero, List.set_cons_succ]
                        refine wpAnyL_pure (i := 21) (oi := _) (v := ?_) (some 115) rfl rfl (by kernel_rfl) (by kernel_rfl) (by kernel_rfl) (by kernel_rfl) (fun _ _ _ h => h) (fun _ => HS0.out) (Or.inl ⟨by rfl, ?_⟩) ?_
                        rotate_left
                        · intro W hSw; go_simp; try with_reducible rfl
                        try simp only [Act.put, List.setIfInBounds_toArray, List.set_cons_zero, List.set_cons_succ]
                        refine wpAnyL_pure (i := 22) (oi := _) (v := ?_) (some 116) rfl rfl (by kernel_rfl) (by kernel_rfl) (by kernel_rfl) (by kernel_rfl) (fun _ _ _ h => h) (fun _ => HS0.out) (Or.inl ⟨by rfl, ?_⟩) ?_
                        rotate_left
                        · intro W hSw; go_simp; try with_reducible rfl
                        try simp only [Act.put, List.setIfInBounds_toArray, List.set_cons_zero, List.set_cons_succ]
                        refine wpAnyL_pure (i := 23) (oi := _) (v := ?_) (some 117) rfl rfl (by kernel_rfl) (by kernel_rfl) (by kernel_rfl) (by kernel_rfl) (fun _ _ _ h => h) (fun _ => HS0.out) (Or.inl ⟨by rfl, ?_⟩) ?_
                        rotate_left
                        · intro W hSw; go_simp; try with_reducible rfl
                        try simp only [Act.put, List.setIfInBounds_toArray, List.set_cons_zero, List.set_cons_succ]
                        refine wpAnyL_pure (i := 24) (oi := _) (v := ?_) (some 118) rfl rfl (by kernel_rfl) (by kernel_rfl) (by kernel_rfl) (by kernel_rfl) (fun _ _ _ h => h) (fun _ => HS0.out) (Or.inl ⟨by rfl, ?_⟩) ?_
                        rotate_left
                        · intro W hSw; go_simp; try with_reducible rfl
                        try simp only [Act.put, List.setIfInBounds_toArray, List.set_cons_zero, List.set_cons_succ]
                        refine wpAnyL_load (i := 25) (oi := _) (v := ?_) (some 119) rfl rfl (by kernel_rfl) (by kernel_rfl) (by kernel_rfl) (by kernel_rfl) (fun _ _ _ h => h) (fun _ => HS0.out) (by kernel_rfl) (by kernel_rfl) (Or.inl ⟨by rfl, ?_⟩) ?_
                        rotate_left
                        · intro W hSw; go_simp; try with_reducible rfl
                        try simp only [Act.put, List.setIfInBounds_toArray, List.set_cons_zero, List.set_cons_succ]
                        refine wpAnyL_pure (i := 26) (oi := _) (v := ?_) (some 120) rfl rfl (by kernel_rfl) (by kernel_rfl) (by kernel_rfl) (by kernel_rfl) (fun _ _ _ h => h) (fun _ => HS0.out) (Or.inl ⟨by rfl, ?_⟩) ?_
                        rotate_left
                        · intro W hSw; go_simp; try with_reducible rfl
                        try simp only [Act.put, List.setIfInBounds_toArray, List.set_cons_zero, List.set_cons_succ]
                        refine wpAnyL_pure (i := 27) (oi := _) (v := ?_) (some 121) rfl rfl (by kernel_rfl) (by kernel_rfl) (by kernel_rfl) (by kernel_rfl) (fun _ _ _ h => h) (fun _ => HS0.out) (Or.inl ⟨by rfl, ?_⟩) ?_
                        rotate_left
                        · intro W hSw; go_simp; try with_reducible rfl
                        try simp only [Act.put, List.setIfInBounds_toArray, List.set_cons_zero, List.set_cons_succ]
                        refine wpAnyL_pure (i := 28) (oi := _) (v := ?_) (some 122) rfl rfl (by kernel_rfl) (by kernel_rfl) (by kernel_rfl) (by kernel_rfl) (fun _ _ _ h => h) (fun _ => HS0.out) (Or.inl ⟨by rfl, ?_⟩) ?_
                        rotate_left
                        · intro W hSw; go_simp; try with_reducible rfl
                        try simp only [Act.put, List.setIfInBounds_toArray, List.set_cons_zero, List.set_cons_succ]
                        refine wpAnyL_load (i := 29) (oi := _) (v := ?_) (some 123) rfl rfl (by kernel_rfl) (by kernel_rfl) (by kernel_rfl) (by kernel_rfl) (fun _ _ _ h => h) (fun _ => HS0.out) (by kernel_rfl) (by kernel_rfl) (Or.inl ⟨by rfl, ?_⟩) ?_
                        rotate_left
                        · intro W hSw; go_simp; try with_reducible rfl
                        try simp only [Act.put, List.setIfInBounds_toArray, List.set_cons_zero, List.set_cons_succ]
                        refine wpAnyL_pure (i := 30) (oi := _) (v := ?_) (some 124) rfl rfl (by kernel_rfl) (by kernel_rfl) (by kernel_rfl) (by kernel_rfl) (fun _ _ _ h => h) (fun _ => HS0.out) (Or.inl ⟨by rfl, ?_⟩) ?_
                        rotate_left
                        · intro W hSw; go_simp; try with_reducible rfl
                        try simp only [Act.put, List.setIfInBounds_toArray, List.set_cons_zero, List.set_cons_succ]
                        refine wpAnyL_pure (i := 31) (oi := _) (v := ?_) (some 125) rfl rfl (by kernel_rfl) (by kernel_rfl) (by kernel_rfl) (by kernel_rfl) (fun _ _ _ h => h) (fun _ => HS0.out) (Or.inl ⟨by rfl, ?_⟩) ?_
                        rotate_left
                        · intro W hSw; go_simp; try with_reducible rfl
                        try simp only [Act.put, List.setIfInBounds_toArray, List.set_cons_zero, List.set_cons_succ]
                        refine wpAnyL_pure (i := 32) (oi := _) (v := ?_) (some 126) rfl rfl (by kernel_rfl) (by kernel_rfl) (by kernel_rfl) (by kernel_rfl) (fun _ _ _ h => h) (fun _ => HS0.out) (Or.inl ⟨by rfl, ?_⟩) ?_
                        rotate_left
                        · intro W hSw; go_simp; try with_reducible rfl
                        try simp only [Act.put, List.setIfInBounds_toArray, List.set_cons_zero, List.set_cons_succ]
                        refine wpAnyL_pure (i := 33) (oi := _) (v := ?_) (some 127) rfl rfl (by kernel_rfl) (by kernel_rfl) (by kernel_rfl) (by kernel_rfl) (fun _ _ _ h => h) (fun _ => HS0.out) (Or.inl ⟨by rfl, ?_⟩) ?_
                        rotate_left
                        · intro W hSw; go_simp; try with_reducible rfl
                        try simp only [Act.put, List.setIfInBounds_toArray, List.set_cons_zero, List.set_cons_succ]
                        refine wpAnyL_load (i := 34) (oi := _) (v := ?_) (some 128) rfl rfl (by kernel_rfl) (by kernel_rfl) (by kernel_rfl) (by kernel_rfl) (fun _ _ _ h => h) (fun _ => HS0.out) (by kernel_rfl) (by kernel_rfl) (Or.inl ⟨by rfl, ?_⟩) ?_
                        rotate_left
                        · intro W hSw; go_simp; try with_reducible rfl
                        try simp only [Act.put, List.setIfInBounds_toArray, List.set_cons_zero, List.set_cons_succ]
                        refine wpAnyL_pure (i := 35) (oi := _) (v := ?_) (some 129) rfl rfl (by kernel_rfl) (by kernel_rfl) (by kernel_rfl) (by kernel_rfl) (fun _ _ _ h => h) (fun _ => HS0.out) (Or.inl ⟨by rfl, ?_⟩) ?_
                        rotate_left
                        · intro W hSw; go_simp; try with_reducible rfl
                        try simp only [Act.put, List.setIfInBounds_toArray, List.set_cons_zero, List.set_cons_succ]
                        refine wpAnyL_pure (i := 36) (oi := _) (v := ?_) (some 130) rfl rfl (by kernel_rfl) (by kernel_rfl) (by kernel_rfl) (by kernel_rfl) (fun _ _ _ h => h) (fun _ => HS0.out) (Or.inl ⟨by rfl, ?_⟩) ?_
                        rotate_left
                        · intro W hSw; go_simp; try with_reducible rfl
                        try simp only [Act.put, List.setIfInBounds_toArray, List.set_cons_zero, List.set_cons_succ]
                        refine wpAnyL_pure (i := 37) (oi := _) (v := ?_) (some 131) rfl rfl (by kernel_rfl) (by kernel_rfl) (by kernel_rfl) (by kernel_rfl) (fun _ _ _ h => h) (fun _ => HS0.out) (Or.inl ⟨by rfl, ?_⟩) ?_
                        rotate_left
                        · intro W hSw; go_simp; try with_reducible rfl
                        try simp only [Act.put, List.setIfInBounds_toArray, List.set_cons_zero, List.set_cons_succ]
                        refine wpAnyL_load (i := 38) (oi := _) (v := ?_) (some 132) rfl rfl (by kernel_rfl) (by kernel_rfl) (by kernel_rfl) (by kernel_rfl) (fun _ _ _ h => h) (fun _ => HS0.out) (by kernel_rfl) (by kernel_rfl) (Or.inl ⟨by rfl, ?_⟩) ?_
                        rotate_left
                        · intro W hSw; go_simp; try with_reducible rfl
                        try simp only [Act.put, List.setIfInBounds_toArray, List.set_cons_zero, List.set_cons_succ]
                        refine wpAnyL_pure (i := 39) (oi := _) (v := ?_) (some 133) rfl rfl (by kernel_rfl) (by kernel_rfl) (by kernel_rfl) (by kernel_rfl) (fun _ _ _ h => h) (fun _ => HS0.out) (Or.inl ⟨by rfl, ?_⟩) ?_
                        rotate_left
                        · intro W hSw; go_simp; try with_reducible rfl
                        try simp only [Act.put, List.setIfInBounds_toArray, List.set_cons_zero, List.set_cons_succ]
                        refine wpAnyL_load (i := 40) (oi := _) (v := ?_) (some 134) rfl rfl (by kernel_rfl) (by kernel_rfl) (by kernel_rfl) (by kernel_rfl) (fun _ _ _ h => h) (fun _ => HS0.out) (by kernel_rfl) (by kernel_rfl) (Or.inl ⟨by rfl, ?_⟩) ?_
                        rotate_left
                        · intro W hSw; go_simp; try with_reducible rfl
                        try simp only [Act.put, List.setIfInBounds_toArray, List.set_cons_zero, List.set_cons_succ]
                        refine wpAnyL_pure (i := 41) (oi := _) (v := ?_) (some 135) rfl rfl (by kernel_rfl) (by kernel_rfl) (by kernel_rfl) (by kernel_rfl) (fun _ _ _ h => h) (fun _ => HS0.out) (Or.inl ⟨by rfl, ?_⟩) ?_
                        rotate_left
                        · intro W hSw; go_simp; try with_reducible rfl
                        try simp only [Act.put, List.setIfInBounds_toArray, List.set_cons_zero, List.set_cons_succ]
                        refine wpAnyL_pure (i := 42) (oi := _) (v := ?_) (some 136) rfl rfl (by kernel_rfl) (by kernel_rfl) (by kernel_rfl) (by kernel_rfl) (fun _ _ _ h => h) (fun _ => HS0.out) (Or.inl ⟨by rfl, ?_⟩) ?_
                        rotate_left
                        · intro W hSw; go_simp; try with_reducible rfl
                        try simp only [Act.put, List.setIfInBounds_toArray, List.set_cons_zero, List.set_cons_succ]
                        refine wpAnyL_pure (i := 43) (oi := _) (v := ?_) (some 137) rfl rfl (by kernel_rfl) (by kernel_rfl) (by kernel_rfl) (by kernel_rfl) (fun _ _ _ h => h) (fun _ => HS0.out) (Or.inl ⟨by rfl, ?_⟩) ?_
                        rotate_left
                        · intro W hSw; go_simp; try with_reducible rfl
                        try simp only [Act.put, List.setIfInBounds_toArray, List.set_cons_zero, List.set_cons_succ]
                        refine wpAnyL_done (by kernel_rfl) ?_ _
                        go_wp2_with fail
                        go_roundw
                        case rel => exact ⟨0 + 1, by omega, by go_num, Lib.hid (by rw [kidsB_succ, HKI.out, HKD.out, HKV.out]; rfl), Lib.hid (bthen HBW.out (Below.refl _ _).drew)⟩
                        case measure => simp [intOf]; omega
                    · have h6' : decide ((0 : Int) < (z.kids.length : Int)) = false := decide_eq_false (by omega)
                      have h6n : decide (0 < z.kids.length) = false := decide_eq_false h6
                      have h6z : (0 < z.kids.length) = False := eq_false h6
                      have HKV := Lib.hid (show kidB g ⟨false, fn, xc, xk⟩ 0 (kn : Int) = true by simp [kidB, HZ.out, hk0, hkg, h6])
                      clear h6 hk0 hkg
                      go_wp2_with fail
                      have HS0 : Hid (∀ a, wr.drew.cell? a = wr.cell? a) := Lib.hid (fun _ => rfl)
                      refine wp_region_L (S := fun W => ∀ a, W.cell? a = wr.cell? a) (T := []) (by kernel_rfl) HS0.out (fun _ => ?_)
                      refine wpAnyL_pure (i := 0) (oi := _) (v := ?_) (some 94) rfl rfl (by kernel_rfl) (by kernel_rfl) (by kernel_rfl) (by kernel_rfl) (fun _ _ _ h => h) (fun _ => HS0.out) (Or.inl ⟨by rfl, ?_⟩) ?_
                      rotate_left
                      · intro W hSw; go_simp; try with_reducible rfl
                      try simp only [Act.put, List.setIfInBounds_toArray, List.set_cons_zero, List.set_cons_succ]
                      refine wpAnyL_pure (i := 1) (oi := _) (v := ?_) (some 95) rfl rfl (by kernel_rfl) (by kernel_rfl) (by kernel_rfl) (by kernel_rfl) (fun _ _ _ h => h) (fun _ => HS0.out) (Or.inl ⟨by rfl, ?_⟩) ?_
                      rotate_left
                      · intro W hSw; go_simp; try with_reducible rfl
                      try simp only [Act.put, List.setIfInBounds_toArray, List.set_cons_zero, List.set_cons_succ]
                      refine wpAnyL_pure (i := 2) (oi := _) (v := ?_) (some 96) rfl rfl (by kernel_rfl) (by kernel_rfl) (by kernel_rfl) (by kernel_rfl) (fun _ _ _ h => h) (fun _ => HS0.out) (Or.inl ⟨by rfl, ?_⟩) ?_
                      rotate_left
                      · intro W hSw; go_simp; try with_reducible rfl
                      try simp only [Act.put, List.setIfInBounds_toArray, List.set_cons_zero, List.set_cons_succ]
                      refine wpAnyL_pure (i := 3) (oi := _) (v := ?_) (some 97) rfl rfl (by kernel_rfl) (by kernel_rfl) (by kernel_rfl) (by kernel_rfl) (fun _ _ _ h => h) (fun _ => HS0.out) (Or.inl ⟨by rfl, ?_⟩) ?_
                      rotate_left
                      · intro W hSw; go_simp; try with_reducible rfl
                      try simp only [Act.put, List.setIfInBounds_toArray, List.set_cons_zero, List.set_cons_succ]
                      refine wpAnyL_pure (i := 4) (oi := _) (v := ?_) (some 98) rfl rfl (by kernel_rfl) (by kernel_rfl) (by kernel_rfl) (by kernel_rfl) (fun _ _ _ h => h) (fun _ => HS0.out) (Or.inl ⟨by rfl, ?_⟩) ?_
                      rotate_left
                      · intro W hSw; go_simp; try with_reducible rfl
                      try simp only [Act.put, List.setIfInBounds_toArray, List.set_cons_zero, List.set_cons_succ]
                      refine wpAnyL_load (i := 5) (oi := _) (v := ?_) (some 99) rfl rfl (by kernel_rfl) (by kernel_rfl) (by kernel_rfl) (by kernel_rfl) (fun _ _ _ h => h) (fun _ => HS0.out) (by kernel_rfl) (by kernel_rfl) (Or.inl ⟨by rfl, ?_⟩) ?_
                      rotate_left
                      · intro W hSw; go_simp; try with_reducible rfl
                      try simp only [Act.put, List.setIfInBounds_toArray, List.set_cons_zero, List.set_cons_succ]
                      refine wpAnyL_pure (i := 6) (oi := _) (v := ?_) (some 100) rfl rfl (by kernel_rfl) (by kernel_rfl) (by kernel_rfl) (by kernel_rfl) (fun _ _ _ h => h) (fun _ => HS0.out) (Or.inl ⟨by rfl, ?_⟩) ?_
                      rotate_left
                      · intro W hSw; go_simp; try with_reducible rfl
                      try simp only [Act.put, List.setIfInBounds_toArray, List.set_cons_zero, List.set_cons_succ]
                      refine wpAnyL_pure (i := 7) (oi := _) (v := ?_) (some 101) rfl rfl (by kernel_rfl) (by kernel_rfl) (by kernel_rfl) (by kernel_rfl) (fun _ _ _ h => h) (fun _ => HS0.out) (Or.inl ⟨by rfl, ?_⟩) ?_
                      rotate_left
                      · intro W hSw; go_simp; try with_reducible rfl
                      try simp only [Act.put, List.setIfInBounds_toArray, List.set_cons_zero, List.set_cons_succ]
                      refine wpAnyL_pure (i := 8) (oi := _) (v := ?_) (some 102) rfl rfl (by kernel_rfl) (by kernel_rfl) (by kernel_rfl) (by kernel_rfl) (fun _ _ _ h => h) (fun _ => HS0.out) (Or.inl ⟨by rfl, ?_⟩) ?_
                      rotate_left
                      · intro W hSw; go_simp; try with_reducible rfl
                      try simp only [Act.put, List.setIfInBounds_toArray, List.set_cons_zero, List.set_cons_succ]
                      refine wpAnyL_pure (i := 9) (oi := _) (v := ?_) (some 103) rfl rfl (by kernel_rfl) (by kernel_rfl) (by kernel_rfl) (by kernel_rfl) (fun _ _ _ h => h) (fun _ => HS0.out) (Or.inl ⟨by rfl, ?_⟩) ?_
                      rotate_left
                      · intro W hSw; go_simp; try with_reducible rfl
                      try simp only [Act.put, List.setIfInBounds_toArray, List.set_cons_zero, List.set_cons_succ]
                      refine wpAnyL_pure (i := 10) (oi := _) (v := ?_) (some 104) rfl rfl (by kernel_rfl) (by kernel_rfl) (by kernel_rfl) (by kernel_rfl) (fun _ _ _ h => h) (fun _ => HS0.out) (Or.inl ⟨by rfl, ?_⟩) ?_
                      rotate_left
                      · intro W hSw; go_simp; try with_reducible rfl
                      try simp only [Act.put, List.setIfInBounds_toArray, List.set_cons_zero, List.set_cons_succ]
                      refine wpAnyL_pure (i := 11) (oi := _) (v := ?_) (some 105) rfl rfl (by kernel_rfl) (by kernel_rfl) (by kernel_rfl) (by kernel_rfl) (fun _ _ _ h => h) (fun _ => HS0.out) (Or.inl ⟨by rfl, ?_⟩) ?_
                      rotate_left
                      · intro W hSw; go_simp; try with_reducible rfl
                      try simp only [Act.put, List.setIfInBounds_toArray, List.set_cons_zero, List.set_cons_succ]
                      refine wpAnyL_pure (i := 12) (oi := _) (v := ?_) (some 106) rfl rfl (by kernel_rfl) (by kernel_rfl) (by kernel_rfl) (by kernel_rfl) (fun _ _ _ h => h) (fun _ => HS0.out) (Or.inl ⟨by rfl, ?_⟩) ?_
                      rotate_left
                      · intro W hSw; go_simp; try with_reducible rfl
                      try simp only [Act.put, List.setIfInBounds_toArray, List.set_cons_zero, List.set_cons_succ]
                      refine wpAnyL_pure (i := 13) (oi := _) (v := undef) (some 107) rfl rfl (by kernel_rfl) (by kernel_rfl) (by kernel_rfl) (by kernel_rfl) (fun _ _ _ h => h) (fun _ => HS0.out) (Or.inr ⟨by rfl, rfl⟩) ?_
                      try simp only [Act.put, List.setIfInBounds_toArray, List.set_cons_zero, List.set_cons_succ]
                      refine wpAnyL_pure (i := 14) (oi := _) (v := undef) (some 108) rfl rfl (by kernel_rfl) (by kernel_rfl) (by kernel_rfl) (by kernel_rfl) (fun _ _ _ h => h) (fun _ => HS0.out) (Or.inr ⟨by rfl, rfl⟩) ?_
                      try simp only [Act.put, List.setIfInBounds_toArray, List.set_cons_zero, List.set_cons_succ]
                      refine wpAnyL_pure (i := 15) (oi := _) (v := undef) (some 109) rfl rfl (by kernel_rfl) (by kernel_rfl) (by kernel_rfl) (by kernel_rfl) (fun _ _ _ h => h) (fun _ => HS0.out) (Or.inr ⟨by rfl, rfl⟩) ?_
                      try simp only [Act.put, List.setIfInBounds_toArray, List.set_cons_zero, List.set_cons_succ]
                      refine wpAnyL_pure (i := 16) (oi := _) (v := undef) (some 110) rfl rfl (by kernel_rfl) (by kernel_rfl) (by kernel_rfl) (by kernel_rfl) (fun _ _ _ h => h) (fun _ => HS0.out) (Or.inr ⟨by rfl, rfl⟩) ?_
                      try simp only [Act.put, List.setIfInBounds_toArray, List.set_cons_zero, List.set_cons_succ]
                      refine wpAnyL_pure (i := 17) (oi := _) (v := undef) (some 111) rfl rfl (by kernel_rfl) (by kernel_rfl) (by kernel_rfl) (by kernel_rfl) (fun _ _ _ h => h) (fun _ => HS0.out) (Or.inr ⟨by rfl, rfl⟩) ?_
                      try simp only [Act.put, List.setIfInBounds_toArray, List.set_cons_zero, List.set_cons_succ]
                      refine wpAnyL_pure (i := 18) (oi := _) (v := undef) (some 112) rfl rfl (by kernel_rfl) (by kernel_rfl) (by kernel_rfl) (by kernel_rfl) (fun _ _ _ h => h) (fun _ => HS0.out) (Or.inr ⟨by rfl, rfl⟩) ?_
                      try simp only [Act.put, List.setIfInBounds_toArray, List.set_cons_zero, List.set_cons_succ]
                      refine wpAnyL_pure (i := 19) (oi := _) (v := undef) (some 113) rfl rfl (by kernel_rfl) (by kernel_rfl) (by kernel_rfl) (by kernel_rfl) (fun _ _ _ h => h) (fun _ => HS0.out) (Or.inr ⟨by rfl, rfl⟩) ?_
                      try simp only [Act.put, List.setIfInBounds_toArray, List.set_cons_zero, List.set_cons_succ]
                      refine wpAnyL_pure (i := 20) (oi := _) (v := undef) (some 114) rfl rfl (by kernel_rfl) (by kernel_rfl) (by kernel_rfl) (by kernel_rfl) (fun _ _ _ h => h) (fun _ => HS0.out) (Or.inr ⟨by rfl, rfl⟩) ?_
                      try simp only [Act.put, List.setIfInBounds_toArray, List.set_cons_zero, List.set_cons_succ]
                      refine wpAnyL_pure (i := 21) (oi := _) (v := ?_) (some 115) rfl rfl (by kernel_rfl) (by kernel_rfl) (by kernel_rfl) (by kernel_rfl) (fun _ _ _ h => h) (fun _ => HS0.out) (Or.inl ⟨by rfl, ?_⟩) ?_
                      rotate_left
                      · intro W hSw; go_simp; try with_reducible rfl
                      try simp only [Act.put, List.setIfInBounds_toArray, List.set_cons_zero, List.set_cons_succ]
                      refine wpAnyL_pure (i := 22) (oi := _) (v := ?_) (some 116) rfl rfl (by kernel_rfl) (by kernel_rfl) (by kernel_rfl) (by kernel_rfl) (fun _ _ _ h => h) (fun _ => HS0.out) (Or.inl ⟨by rfl, ?_⟩) ?_
                      rotate_left
                      · intro W hSw; go_simp; try with_reducible rfl
                      try simp only [Act.put, List.setIfInBounds_toArray, List.set_cons_zero, List.set_cons_succ]
                      refine wpAnyL_pure (i := 23) (oi := _) (v := ?_) (some 117) rfl rfl (by kernel_rfl) (by kernel_rfl) (by kernel_rfl) (by kernel_rfl) (fun _ _ _ h => h) (fun _ => HS0.out) (Or.inl ⟨by rfl, ?_⟩) ?_
                      rotate_left
                      · intro W hSw; go_simp; try with_reducible rfl
                      try simp only [Act.put, List.setIfInBounds_toArray, List.set_cons_zero, List.set_cons_succ]
                      refine wpAnyL_pure (i := 24) (oi := _) (v := ?_) (some 118) rfl rfl (by kernel_rfl) (by kernel_rfl) (by kernel_rfl) (by kernel_rfl) (fun _ _ _ h => h) (fun _ => HS0.out) (Or.inl ⟨by rfl, ?_⟩) ?_
                      rotate_left
                      · intro W hSw; go_simp; try with_reducible rfl
                      try simp only [Act.put, List.setIfInBounds_toArray, List.set_cons_zero, List.set_cons_succ]
                      refine wpAnyL_load (i := 25) (oi := _) (v := ?_) (some 119) rfl rfl (by kernel_rfl) (by kernel_rfl) (by kernel_rfl) (by kernel_rfl) (fun _ _ _ h => h) (fun _ => HS0.out) (by kernel_rfl) (by kernel_rfl) (Or.inl ⟨by rfl, ?_⟩) ?_
                      rotate_left
                      · intro W hSw; go_simp; try with_reducible rfl
                      try simp only [Act.put, List.setIfInBounds_toArray, List.set_cons_zero, List.set_cons_succ]
                      refine wpAnyL_pure (i := 26) (oi := _) (v := ?_) (some 120) rfl rfl (by kernel_rfl) (by kernel_rfl) (by kernel_rfl) (by kernel_rfl) (fun _ _ _ h => h) (fun _ => HS0.out) (Or.inl ⟨by rfl, ?_⟩) ?_
                      rotate_left
                      · intro W hSw; go_simp; try with_reducible rfl
                      try simp only [Act.put, List.setIfInBounds_toArray, List.set_cons_zero, List.set_cons_succ]
                      refine wpAnyL_pure (i := 27) (oi := _) (v := ?_) (some 121) rfl rfl (by kernel_rfl) (by kernel_rfl) (by kernel_rfl) (by kernel_rfl) (fun _ _ _ h => h) (fun _ => HS0.out) (Or.inl ⟨by rfl, ?_⟩) ?_
                      rotate_left
                      · intro W hSw; go_simp; try with_reducible rfl
                      try simp only [Act.put, List.setIfInBounds_toArray, List.set_cons_zero, List.set_cons_succ]
                      refine wpAnyL_pure (i := 28) (oi := _) (v := ?_) (some 122) rfl rfl (by kernel_rfl) (by kernel_rfl) (by kernel_rfl) (by kernel_rfl) (fun _ _ _ h => h) (fun _ => HS0.out) (Or.inl ⟨by rfl, ?_⟩) ?_
                      rotate_left
                      · intro W hSw; go_simp; try with_reducible rfl
                      try simp only [Act.put, List.setIfInBounds_toArray, List.set_cons_zero, List.set_cons_succ]
                      refine wpAnyL_load (i := 29) (oi := _) (v := ?_) (some 123) rfl rfl (by kernel_rfl) (by kernel_rfl) (by kernel_rfl) (by kernel_rfl) (fun _ _ _ h => h) (fun _ => HS0.out) (by kernel_rfl) (by kernel_rfl) (Or.inl ⟨by rfl, ?_⟩) ?_
                      rotate_left
                      · intro W hSw; go_simp; try with_reducible rfl
                      try simp only [Act.put, List.setIfInBounds_toArray, List.set_cons_zero, List.set_cons_succ]
                      refine wpAnyL_pure (i := 30) (oi := _) (v := ?_) (some 124) rfl rfl (by kernel_rfl) (by kernel_rfl) (by kernel_rfl) (by kernel_rfl) (fun _ _ _ h => h) (fun _ => HS0.out) (Or.inl ⟨by rfl, ?_⟩) ?_
                      rotate_left
                      · intro W hSw; go_simp; try with_reducible rfl
                      try simp only [Act.put, List.setIfInBounds_toArray, List.set_cons_zero, List.set_cons_succ]
                      refine wpAnyL_pure (i := 31) (oi := _) (v := ?_) (some 125) rfl rfl (by kernel_rfl) (by kernel_rfl) (by kernel_rfl) (by kernel_rfl) (fun _ _ _ h => h) (fun _ => HS0.out) (Or.inl ⟨by rfl, ?_⟩) ?_
                      rotate_left
                      · intro W hSw; go_simp; try with_reducible rfl
                      try simp only [Act.put, List.setIfInBounds_toArray, List.set_cons_zero, List.set_cons_succ]
                      refine wpAnyL_pure (i := 32) (oi := _) (v := ?_) (some 126) rfl rfl (by kernel_rfl) (by kernel_rfl) (by kernel_rfl) (by kernel_rfl) (fun _ _ _ h => h) (fun _ => HS0.out) (Or.inl ⟨by rfl, ?_⟩) ?_
                      rotate_left
                      · intro W hSw; go_simp; try with_reducible rfl
                      try simp only [Act.put, List.setIfInBounds_toArray, List.set_cons_zero, List.set_cons_succ]
                      refine wpAnyL_pure (i := 33) (oi := _) (v := undef) (some 127) rfl rfl (by kernel_rfl) (by kernel_rfl) (by kernel_rfl) (by kernel_rfl) (fun _ _ _ h => h) (fun _ => HS0.out) (Or.inr ⟨by rfl, rfl⟩) ?_
                      try simp only [Act.put, List.setIfInBounds_toArray, List.set_cons_zero, List.set_cons_succ]
                      refine wpAnyL_pure (i := 34) (oi := _) (v := undef) (some 128) rfl rfl (by kernel_rfl) (by kernel_rfl) (by kernel_rfl) (by kernel_rfl) (fun _ _ _ h => h) (fun _ => HS0.out) (Or.inr ⟨by rfl, rfl⟩) ?_
                      try simp only [Act.put, List.setIfInBounds_toArray, List.set_cons_zero, List.set_cons_succ]
                      refine wpAnyL_pure (i := 35) (oi := _) (v := undef) (some 129) rfl rfl (by kernel_rfl) (by kernel_rfl) (by kernel_rfl) (by kernel_rfl) (fun _ _ _ h => h) (fun _ => HS0.out) (Or.inr ⟨by rfl, rfl⟩) ?_
                      try simp only [Act.put, List.setIfInBounds_toArray, List.set_cons_zero, List.set_cons_succ]
                      refine wpAnyL_pure (i := 36) (oi := _) (v := undef) (some 130) rfl rfl (by kernel_rfl) (by kernel_rfl) (by kernel_rfl) (by kernel_rfl) (fun _ _ _ h => h) (fun _ => HS0.out) (Or.inr ⟨by rfl, rfl⟩) ?_
                      try simp only [Act.put, List.setIfInBounds_toArray, List.set_cons_zero, List.set_cons_succ]
                      refine wpAnyL_pure (i := 37) (oi := _) (v := undef) (some 131) rfl rfl (by kernel_rfl) (by kernel_rfl) (by kernel_rfl) (by kernel_rfl) (fun _ _ _ h => h) (fun _ => HS0.out) (Or.inr ⟨by rfl, rfl⟩) ?_
                      try simp only [Act.put, List.setIfInBounds_toArray, List.set_cons_zero, List.set_cons_succ]
                      refine wpAnyL_pure (i := 38) (oi := _) (v := undef) (some 132) rfl rfl (by kernel_rfl) (by kernel_rfl) (by kernel_rfl) (by kernel_rfl) (fun _ _ _ h => h) (fun _ => HS0.out) (Or.inr ⟨by rfl, rfl⟩) ?_
                      try simp only [Act.put, List.setIfInBounds_toArray, List.set_cons_zero, List.set_cons_succ]
                      refine wpAnyL_pure (i := 39) (oi := _) (v := undef) (some 133) rfl rfl (by kernel_rfl) (by kernel_rfl) (by kernel_rfl) (by kernel_rfl) (fun _ _ _ h => h) (fun _ => HS0.out) (Or.inr ⟨by rfl, rfl⟩) ?_
                      try simp only [Act.put, List.setIfInBounds_toArray, List.set_cons_zero, List.set_cons_succ]
                      refine wpAnyL_pure (i := 40) (oi := _) (v := undef) (some 134) rfl rfl (by kernel_rfl) (by kernel_rfl) (by kernel_rfl) (by kernel_rfl) (fun _ _ _ h => h) (fun _ => HS0.out) (Or.inr ⟨by rfl, rfl⟩) ?_
                      try simp only [Act.put, List.setIfInBounds_toArray, List.set_cons_zero, List.set_cons_succ]
                      refine wpAnyL_pure (i := 41) (oi := _) (v := undef) (some 135) rfl rfl (by kernel_rfl) (by kernel_rfl) (by kernel_rfl) (by kernel_rfl) (fun _ _ _ h => h) (fun _ => HS0.out) (Or.inr ⟨by rfl, rfl⟩) ?_
                      try simp only [Act.put, List.setIfInBounds_toArray, List.set_cons_zero, List.set_cons_succ]
                      refine wpAnyL_pure (i := 42) (oi := _) (v := ?_) (some 136) rfl rfl (by kernel_rfl) (by kernel_rfl) (by kernel_rfl) (by kernel_rfl) (fun _ _ _ h => h) (fun _ => HS0.out) (Or.inl ⟨by rfl, ?_⟩) ?_
                      rotate_left
                      · intro W hSw; go_simp; try with_reducible rfl
                      try simp only [Act.put, List.setIfInBounds_toArray, List.set_cons_zero, List.set_cons_succ]
                      refine wpAnyL_pure (i := 43) (oi := _) (v := ?_) (some 137) rfl rfl (by kernel_rfl) (by kernel_rfl) (by kernel_rfl) (by kernel_rfl) (fun _ _ _ h => h) (fun _ => HS0.out) (Or.inl ⟨by rfl, ?_⟩) ?_
                      rotate_left
                      · intro W hSw; go_simp; try with_reducible rfl
                      try simp only [Act.put, List.setIfInBounds_toArray, List.set_cons_zero, List.set_cons_succ]
                      refine wpAnyL_done (by kernel_rfl) ?_ _
                      go_wp2_with fail
                      go_roundw
                      case rel => exact ⟨0 + 1, by omega, by go_num, Lib.hid (by rw [kidsB_succ, HKI.out, HKD.out, HKV.out]; rfl), Lib.hid (bthen HBW.out (Below.refl _ _).drew)⟩
                      case measure => simp [intOf]; omega
              | succ m =>
                have hltp : m < xk.length := by omega
                obtain ⟨bk, ok, rfl, _, hbk, k0, ki⟩ := int_cell (HX.out.kids.keep (HB.out.trans (HBW.out.mono HB.out.size)).size (fun b hb _ => (HB.out.trans (HBW.out.mono HB.out.size)).block b hb) (fun _ hb hs => (⟨hs, hb⟩ : S2 _ ∧ _ < w.heap.size))) hlt
                obtain ⟨bp, op, hbp, _, _, kp0, _⟩ := int_cell (HX.out.kids.keep (HB.out.trans (HBW.out.mono HB.out.size)).size (fun b hb _ => (HB.out.trans (HBW.out.mono HB.out.size)).block b hb) (fun _ hb hs => (⟨hs, hb⟩ : S2 _ ∧ _ < w.heap.size))) hltp
                injection hbp with hbp
                injection hbp with hbp1 hbp2
                subst hbp1 hbp2
                have HZP := Lib.hid (show xk[m]?.getD 0 = xk[m] by simp [hltp])
                generalize xk[m] = zp at *
                have hwm : IntKind.i64.wrap (m : Int) = (m : Int) := by rw [IntKind.wrap_i64]; omega
                have hmlt : (m : Int) < (xk.length : Int) := by omega
                have HKD := Lib.hid (show xk.getD (m + 1) 0 = xk[(m + 1)] by simp [hlt])
                generalize xk[(m + 1)] = k at *
                have hks : (((m + 1) : Nat) : Int) < (xk.length : Int) := by omega
                by_cases hk0 : k < 0
                · have HKV := Lib.hid (show kidB g ⟨false, fn, xc, xk⟩ (m + 1) k = false by simp [kidB, hk0])
                  go_wp2_with fail
                  have HS0 : Hid (∀ a, wr.drew.cell? a = wr.cell? a) := Lib.hid (fun _ => rfl)
                  refine wp_region_L (S := fun W => ∀ a, W.cell? a = wr.cell? a) (T := []) (by kernel_rfl) HS0.out (fun _ => ?_)
                  refine wpAnyL_pure (i := 0) (oi := _) (v := ?_) (some 94) rfl rfl (by kernel_rfl) (by kernel_rfl) (by kernel_rfl) (by kernel_rfl) (fun _ _ _ h => h) (fun _ => HS0.out) (Or.inl ⟨by rfl, ?_⟩) ?_
                  rotate_left
                  · intro W hSw; go_simp; try with_reducible rfl
                  try simp only [Act.put, List.setIfInBounds_toArray, List.set_cons_zero, List.set_cons_succ]
                  refine wpAnyL_pure (i := 1) (oi := _) (v := ?_) (some 95) rfl rfl (by kernel_rfl) (by kernel_rfl) (by kernel_rfl) (by kernel_rfl) (fun _ _ _ h => h) (fun _ => HS0.out) (Or.inl ⟨by rfl, ?_⟩) ?_
                  rotate_left
                  · intro W hSw; go_simp; try with_reducible rfl
                  try simp only [Act.put, List.setIfInBounds_toArray, List.set_cons_zero, List.set_cons_succ]
                  refine wpAnyL_pure (i := 2) (oi := _) (v := ?_) (some 96) rfl rfl (by kernel_rfl) (by kernel_rfl) (by kernel_rfl) (by kernel_rfl) (fun _ _ _ h => h) (fun _ => HS0.out) (Or.inl ⟨by rfl, ?_⟩) ?_
                  rotate_left
                  · intro W hSw; go_simp; try with_reducible rfl
                  try simp only [Act.put, List.setIfInBounds_toArray, List.set_cons_zero, List.set_cons_succ]
                  refine wpAnyL_pure (i := 3) (oi := _) (v := undef) (some 97) rfl rfl (by kernel_rfl) (by kernel_rfl) (by kernel_rfl) (by kernel_rfl) (fun _ _ _ h => h) (fun _ => HS0.out) (Or.inr ⟨by rfl, rfl⟩) ?_
                  try simp only [Act.put, List.setIfInBounds_toArray, List.set_cons_zero, List.set_cons_succ]
                  refine wpAnyL_pure (i := 4) (oi := _) (v := undef) (some 98) rfl rfl (by kernel_rfl) (by kernel_rfl) (by kernel_rfl) (by kernel_rfl) (fun _ _ _ h => h) (fun _ => HS0.out) (Or.inr ⟨by rfl, rfl⟩) ?_
                  try simp only [Act.put, List.setIfInBounds_toArray, List.set_cons_zero, List.set_cons_succ]
                  refine wpAnyL_pure (i := 5) (oi := _) (v := undef) (some 99) rfl rfl (by kernel_rfl) (by kernel_rfl) (by kernel_rfl) (by kernel_rfl) (fun _ _ _ h => h) (fun _ => HS0.out) (Or.inr ⟨by rfl, rfl⟩) ?_
                  try simp only [Act.put, List.setIfInBounds_toArray, List.set_cons_zero, List.set_cons_succ]
                  refine wpAnyL_pure (i := 6) (oi := _) (v := undef) (some 100) rfl rfl (by kernel_rfl) (by kernel_rfl) (by kernel_rfl) (by kernel_rfl) (fun _ _ _ h => h) (fun _ => HS0.out) (Or.inr ⟨by rfl, rfl⟩) ?_
                  try simp only [Act.put, List.setIfInBounds_toArray, List.set_cons_zero, List.set_cons_succ]
                  refine wpAnyL_pure (i := 7) (oi := _) (v := undef) (some 101) rfl rfl (by kernel_rfl) (by kernel_rfl) (by kernel_rfl) (by kernel_rfl) (fun _ _ _ h => h) (fun _ => HS0.out) (Or.inr ⟨by rfl, rfl⟩) ?_
                  try simp only [Act.put, List.setIfInBounds_toArray, List.set_cons_zero, List.set_cons_succ]
                  refine wpAnyL_pure (i := 8) (oi := _) (v := ?_) (some 102) rfl rfl (by kernel_rfl) (by kernel_rfl) (by kernel_rfl) (by kernel_rfl) (fun _ _ _ h => h) (fun _ => HS0.out) (Or.inl ⟨by rfl, ?_⟩) ?_
                  rotate_left
                  · intro W hSw; go_simp; try with_reducible rfl
                  try simp only [Act.put, List.setIfInBounds_toArray, List.set_cons_zero, List.set_cons_succ]
                  refine wpAnyL_pure (i := 9) (oi := _) (v := ?_) (some 103) rfl rfl (by kernel_rfl) (by kernel_rfl) (by kernel_rfl) (by kernel_rfl) (fun _ _ _ h => h) (fun _ => HS0.out) (Or.inl ⟨by rfl, ?_⟩) ?_
                  rotate_left
                  · intro W hSw; go_simp; try with_reducible rfl
                  try simp only [Act.put, List.setIfInBounds_toArray, List.set_cons_zero, List.set_cons_succ]
                  refine wpAnyL_pure (i := 10) (oi := _) (v := undef) (some 104) rfl rfl (by kernel_rfl) (by kernel_rfl) (by kernel_rfl) (by kernel_rfl) (fun _ _ _ h => h) (fun _ => HS0.out) (Or.inr ⟨by rfl, rfl⟩) ?_
                  try simp only [Act.put, List.setIfInBounds_toArray, List.set_cons_zero, List.set_cons_succ]
                  refine wpAnyL_pure (i := 11) (oi := _) (v := undef) (some 105) rfl rfl (by kernel_rfl) (by kernel_rfl) (by kernel_rfl) (by kernel_rfl) (fun _ _ _ h => h) (fun _ => HS0.out) (Or.inr ⟨by rfl, rfl⟩) ?_
                  try simp only [Act.put, List.setIfInBounds_toArray, List.set_cons_zero, List.set_cons_succ]
                  refine wpAnyL_pure (i := 12) (oi := _) (v := undef) (some 106) rfl rfl (by kernel_rfl) (by kernel_rfl) (by kernel_rfl) (by kernel_rfl) (fun _ _ _ h => h) (fun _ => HS0.out) (Or.inr ⟨by rfl, rfl⟩) ?_
                  try simp only [Act.put, List.setIfInBounds_toArray, List.set_cons_zero, List.set_cons_succ]
                  refine wpAnyL_pure (i := 13) (oi := _) (v := undef) (some 107) rfl rfl (by kernel_rfl) (by kernel_rfl) (by kernel_rfl) (by kernel_rfl) (fun _ _ _ h => h) (fun _ => HS0.out) (Or.inr ⟨by rfl, rfl⟩) ?_
                  try simp only [Act.put, List.setIfInBounds_toArray, List.set_cons_zero, List.set_cons_succ]
                  refine wpAnyL_pure (i := 14) (oi := _) (v := undef) (some 108) rfl rfl (by kernel_rfl) (by kernel_rfl) (by kernel_rfl) (by kernel_rfl) (fun _ _ _ h => h) (fun _ => HS0.out) (Or.inr ⟨by rfl, rfl⟩) ?_
                  try simp only [Act.put, List.setIfInBounds_toArray, List.set_cons_zero, List.set_cons_succ]
                  refine wpAnyL_pure (i := 15) (oi := _) (v := undef) (some 109) rfl rfl (by kernel_rfl) (by kernel_rfl) (by kernel_rfl) (by kernel_rfl) (fun _ _ _ h => h) (fun _ => HS0.out) (Or.inr ⟨by rfl, rfl⟩) ?_
                  try simp only [Act.put, List.setIfInBounds_toArray, List.set_cons_zero, List.set_cons_succ]
                  refine wpAnyL_pure (i := 16) (oi := _) (v := undef) (some 110) rfl rfl (by kernel_rfl) (by kernel_rfl) (by kernel_rfl) (by kernel_rfl) (fun _ _ _ h => h) (fun _ => HS0.out) (Or.inr ⟨by rfl, rfl⟩) ?_
                  try simp only [Act.put, List.setIfInBounds_toArray, List.set_cons_zero, List.set_cons_succ]
                  refine wpAnyL_pure (i := 17) (oi := _) (v := undef) (some 111) rfl rfl (by kernel_rfl) (by kernel_rfl) (by kernel_rfl) (by kernel_rfl) (fun _ _ _ h => h) (fun _ => HS0.out) (Or.inr ⟨by rfl, rfl⟩) ?_
                  try simp only [Act.put, List.setIfInBounds_toArray, List.set_cons_zero, List.set_cons_succ]
                  refine wpAnyL_pure (i := 18) (oi := _) (v := undef) (some 112) rfl rfl (by kernel_rfl) (by kernel_rfl) (by kernel_rfl) (by kernel_rfl) (fun _ _ _ h => h) (fun _ => HS0.out) (Or.inr ⟨by rfl, rfl⟩) ?_
                  try simp only [Act.put, List.setIfInBounds_toArray, List.set_cons_zero, List.set_cons_succ]
                  refine wpAnyL_pure (i := 19) (oi := _) (v := undef) (some 113) rfl rfl (by kernel_rfl) (by kernel_rfl) (by kernel_rfl) (by kernel_rfl) (fun _ _ _ h => h) (fun _ => HS0.out) (Or.inr ⟨by rfl, rfl⟩) ?_
                  try simp only [Act.put, List.setIfInBounds_toArray, List.set_cons_zero, List.set_cons_succ]
                  refine wpAnyL_pure (i := 20) (oi := _) (v := undef) (some 114) rfl rfl (by kernel_rfl) (by kernel_rfl) (by kernel_rfl) (by kernel_rfl) (fun _ _ _ h => h) (fun _ => HS0.out) (Or.inr ⟨by rfl, rfl⟩) ?_
                  try simp only [Act.put, List.setIfInBounds_toArray, List.set_cons_zero, List.set_cons_succ]
                  refine wpAnyL_pure (i := 21) (oi := _) (v := undef) (some 115) rfl rfl (by kernel_rfl) (by kernel_rfl) (by kernel_rfl) (by kernel_rfl) (fun _ _ _ h => h) (fun _ => HS0.out) (Or.inr ⟨by rfl, rfl⟩) ?_
                  try simp only [Act.put, List.setIfInBounds_toArray, List.set_cons_zero, List.set_cons_succ]
                  refine wpAnyL_pure (i := 22) (oi := _) (v := ?_) (some 116) rfl rfl (by kernel_rfl) (by kernel_rfl) (by kernel_rfl) (by kernel_rfl) (fun _ _ _ h => h) (fun _ => HS0.out) (Or.inl ⟨by rfl, ?_⟩) ?_
                  rotate_left
                  · intro W hSw; go_simp; try with_reducible rfl
                  try simp only [Act.put, List.setIfInBounds_toArray, List.set_cons_zero, List.set_cons_succ]
                  refine wpAnyL_pure (i := 23) (oi := _) (v := ?_) (some 117) rfl rfl (by kernel_rfl) (by kernel_rfl) (by kernel_rfl) (by kernel_rfl) (fun _ _ _ h => h) (fun _ => HS0.out) (Or.inl ⟨by rfl, ?_⟩) ?_
                  rotate_left
                  · intro W hSw; go_simp; try with_reducible rfl
                  try simp only [Act.put, List.setIfInBounds_toArray, List.set_cons_zero, List.set_cons_succ]
                  refine wpAnyL_pure (i := 24) (oi := _) (v := undef) (some 118) rfl rfl (by kernel_rfl) (by kernel_rfl) (by kernel_rfl) (by kernel_rfl) (fun _ _ _ h => h) (fun _ => HS0.out) (Or.inr ⟨by rfl, rfl⟩) ?_
                  try simp only [Act.put, List.setIfInBounds_toArray, List.set_cons_zero, List.set_cons_succ]
                  refine wpAnyL_pure (i := 25) (oi := _) (v := undef) (some 119) rfl rfl (by kernel_rfl) (by kernel_rfl) (by kernel_rfl) (by kernel_rfl) (fun _ _ _ h => h) (fun _ => HS0.out) (Or.inr ⟨by rfl, rfl⟩) ?_
                  try simp only [Act.put, List.setIfInBounds_toArray, List.set_cons_zero, List.set_cons_succ]
                  refine wpAnyL_pure (i := 26) (oi := _) (v := undef) (some 120) rfl rfl (by kernel_rfl) (by kernel_rfl) (by kernel_rfl) (by kernel_rfl) (fun _ _ _ h => h) (fun _ => HS0.out) (Or.inr ⟨by rfl, rfl⟩) ?_
                  try simp only [Act.put, List.setIfInBounds_toArray, List.set_cons_zero, List.set_cons_succ]
                  refine wpAnyL_pure (i := 27) (oi := _) (v := undef) (some 121) rfl rfl (by kernel_rfl) (by kernel_rfl) (by kernel_rfl) (by kernel_rfl) (fun _ _ _ h => h) (fun _ => HS0.out) (Or.inr ⟨by rfl, rfl⟩) ?_
                  try simp only [Act.put, List.setIfInBounds_toArray, List.set_cons_zero, List.set_cons_succ]
                  refine wpAnyL_pure (i := 28) (oi := _) (v := undef) (some 122) rfl rfl (by kernel_rfl) (by kernel_rfl) (by kernel_rfl) (by kernel_rfl) (fun _ _ _ h => h) (fun _ => HS0.out) (Or.inr ⟨by rfl, rfl⟩) ?_
                  try simp only [Act.put, List.setIfInBounds_toArray, List.set_cons_zero, List.set_cons_succ]
                  refine wpAnyL_pure (i := 29) (oi := _) (v := undef) (some 123) rfl rfl (by kernel_rfl) (by kernel_rfl) (by kernel_rfl) (by kernel_rfl) (fun _ _ _ h => h) (fun _ => HS0.out) (Or.inr ⟨by rfl, rfl⟩) ?_
                  try simp only [Act.put, List.setIfInBounds_toArray, List.set_cons_zero, List.set_cons_succ]
                  refine wpAnyL_pure (i := 30) (oi := _) (v := undef) (some 124) rfl rfl (by kernel_rfl) (by kernel_rfl) (by kernel_rfl) (by kernel_rfl) (fun _ _ _ h => h) (fun _ => HS0.out) (Or.inr ⟨by rfl, rfl⟩) ?_
                  try simp only [Act.put, List.setIfInBounds_toArray, List.set_cons_zero, List.set_cons_succ]
                  refine wpAnyL_pure (i := 31) (oi := _) (v := undef) (some 125) rfl rfl (by kernel_rfl) (by kernel_rfl) (by kernel_rfl) (by kernel_rfl) (fun _ _ _ h => h) (fun _ => HS0.out) (Or.inr ⟨by rfl, rfl⟩) ?_
                  try simp only [Act.put, List.setIfInBounds_toArray, List.set_cons_zero, List.set_cons_succ]
                  refine wpAnyL_pure (i := 32) (oi := _) (v := undef) (some 126) rfl rfl (by kernel_rfl) (by kernel_rfl) (by kernel_rfl) (by kernel_rfl) (fun _ _ _ h => h) (fun _ => HS0.out) (Or.inr ⟨by rfl, rfl⟩) ?_
                  try simp only [Act.put, List.setIfInBounds_toArray, List.set_cons_zero, List.set_cons_succ]
                  refine wpAnyL_pure (i := 33) (oi := _) (v := undef) (some 127) rfl rfl (by kernel_rfl) (by kernel_rfl) (by kernel_rfl) (by kernel_rfl) (fun _ _ _ h => h) (fun _ => HS0.out) (Or.inr ⟨by rfl, rfl⟩) ?_
                  try simp only [Act.put, List.setIfInBounds_toArray, List.set_cons_zero, List.set_cons_succ]
                  refine wpAnyL_pure (i := 34) (oi := _) (v := undef) (some 128) rfl rfl (by kernel_rfl) (by kernel_rfl) (by kernel_rfl) (by kernel_rfl) (fun _ _ _ h => h) (fun _ => HS0.out) (Or.inr ⟨by rfl, rfl⟩) ?_
                  try simp only [Act.put, List.setIfInBounds_toArray, List.set_cons_zero, List.set_cons_succ]
                  refine wpAnyL_pure (i := 35) (oi := _) (v := undef) (some 129) rfl rfl (by kernel_rfl) (by kernel_rfl) (by kernel_rfl) (by kernel_rfl) (fun _ _ _ h => h) (fun _ => HS0.out) (Or.inr ⟨by rfl, rfl⟩) ?_
                  try simp only [Act.put, List.setIfInBounds_toArray, List.set_cons_zero, List.set_cons_succ]
                  refine wpAnyL_pure (i := 36) (oi := _) (v := undef) (some 130) rfl rfl (by kernel_rfl) (by kernel_rfl) (by kernel_rfl) (by kernel_rfl) (fun _ _ _ h => h) (fun _ => HS0.out) (Or.inr ⟨by rfl, rfl⟩) ?_
                  try simp only [Act.put, List.setIfInBounds_toArray, List.set_cons_zero, List.set_cons_succ]
                  refine wpAnyL_pure (i := 37) (oi := _) (v := undef) (some 131) rfl rfl (by kernel_rfl) (by kernel_rfl) (by kernel_rfl) (by kernel_rfl) (fun _ _ _ h => h) (fun _ => HS0.out) (Or.inr ⟨by rfl, rfl⟩) ?_
                  try simp only [Act.put, List.setIfInBounds_toArray, List.set_cons_zero, List.set_cons_succ]
                  refine wpAnyL_pure (i := 38) (oi := _) (v := undef) (some 132) rfl rfl (by kernel_rfl) (by kernel_rfl) (by kernel_rfl) (by kernel_rfl) (fun _ _ _ h => h) (fun _ => HS0.out) (Or.inr ⟨by rfl, rfl⟩) ?_
                  try simp only [Act.put, List.setIfInBounds_toArray, List.set_cons_zero, List.set_cons_succ]
                  refine wpAnyL_pure (i := 39) (oi := _) (v := undef) (some 133) rfl rfl (by kernel_rfl) (by kernel_rfl) (by kernel_rfl) (by kernel_rfl) (fun _ _ _ h => h) (fun _ => HS0.out) (Or.inr ⟨by rfl, rfl⟩) ?_
                  try simp only [Act.put, List.setIfInBounds_toArray, List.set_cons_zero, List.set_cons_succ]
                  refine wpAnyL_pure (i := 40) (oi := _) (v := undef) (some 134) rfl rfl (by kernel_rfl) (by kernel_rfl) (by kernel_rfl) (by kernel_rfl) (fun _ _ _ h => h) (fun _ => HS0.out) (Or.inr ⟨by rfl, rfl⟩) ?_
                  try simp only [Act.put, List.setIfInBounds_toArray, List.set_cons_zero, List.set_cons_succ]
                  refine wpAnyL_pure (i := 41) (oi := _) (v := undef) (some 135) rfl rfl (by kernel_rfl) (by kernel_rfl) (by kernel_rfl) (by kernel_rfl) (fun _ _ _ h => h) (fun _ => HS0.out) (Or.inr ⟨by rfl, rfl⟩) ?_
                  try simp only [Act.put, List.setIfInBounds_toArray, List.set_cons_zero, List.set_cons_succ]
                  refine wpAnyL_pure (i := 42) (oi := _) (v := undef) (some 136) rfl rfl (by kernel_rfl) (by kernel_rfl) (by kernel_rfl) (by kernel_rfl) (fun _ _ _ h => h) (fun _ => HS0.out) (Or.inr ⟨by rfl, rfl⟩) ?_
                  try simp only [Act.put, List.setIfInBounds_toArray, List.set_cons_zero, List.set_cons_succ]
                  refine wpAnyL_pure (i := 43) (oi := _) (v := ?_) (some 137) rfl rfl (by kernel_rfl) (by kernel_rfl) (by kernel_rfl) (by kernel_rfl) (fun _ _ _ h => h) (fun _ => HS0.out) (Or.inl ⟨by rfl, ?_⟩) ?_
                  rotate_left
                  · intro W hSw; go_simp; try with_reducible rfl
                  try simp only [Act.put, List.setIfInBounds_toArray, List.set_cons_zero, List.set_cons_succ]
                  refine wpAnyL_done (by kernel_rfl) ?_ _
                  go_wp2_with fail
                  go_ret
                  exact ⟨by rw [HV2.out, kidsB_no (i := (m + 1)) hlt (by rw [HKD.out]; exact HKV.out)]; rfl, bthen (bthen HB.out HBW.out) (Below.refl _ _).drew⟩
                · have hk0' : decide (k < 0) = false := decide_eq_false hk0
                  by_cases hkg : (g.length : Int) ≤ k
                  · have HKV := Lib.hid (show kidB g ⟨false, fn, xc, xk⟩ (m + 1) k = false by simp [kidB]; intro h; omega)
                    clear hk0
                    go_wp2_with fail
                    have HS0 : Hid (∀ a, wr.drew.cell? a = wr.cell? a) := Lib.hid (fun _ => rfl)
                    refine wp_region_L (S := fun W => ∀ a, W.cell? a = wr.cell? a) (T := []) (by kernel_rfl) HS0.out (fun _ => ?_)
                    refine wpAnyL_pure (i := 0) (oi := _) (v := ?_) (some 94) rfl rfl (by kernel_rfl) (by kernel_rfl) (by kernel_rfl) (by kernel_rfl) (fun _ _ _ h => h) (fun _ => HS0.out) (Or.inl ⟨by rfl, ?_⟩) ?_
                    rotate_left
                    · intro W hSw; go_simp; try with_reducible rfl
                    try simp only [Act.put, List.setIfInBounds_toArray, List.set_cons_zero, List.set_cons_succ]
                    refine wpAnyL_pure (i := 1) (oi := _) (v := ?_) (some 95) rfl rfl (by kernel_rfl) (by kernel_rfl) (by kernel_rfl) (by kernel_rfl) (fun _ _ _ h => h) (fun _ => HS0.out) (Or.inl ⟨by rfl, ?_⟩) ?_
                    rotate_left
                    · intro W hSw; go_simp; try with_reducible rfl
                    try simp only [Act.put, List.setIfInBounds_toArray, List.set_cons_zero, List.set_cons_succ]
                    refine wpAnyL_pure (i := 2) (oi := _) (v := ?_) (some 96) rfl rfl (by kernel_rfl) (by kernel_rfl) (by kernel_rfl) (by kernel_rfl) (fun _ _ _ h => h) (fun _ => HS0.out) (Or.inl ⟨by rfl, ?_⟩) ?_
                    rotate_left
                    · intro W hSw; go_simp; try with_reducible rfl
                    try simp only [Act.put, List.setIfInBounds_toArray, List.set_cons_zero, List.set_cons_succ]
                    refine wpAnyL_pure (i := 3) (oi := _) (v := ?_) (some 97) rfl rfl (by kernel_rfl) (by kernel_rfl) (by kernel_rfl) (by kernel_rfl) (fun _ _ _ h => h) (fun _ => HS0.out) (Or.inl ⟨by rfl, ?_⟩) ?_
                    rotate_left
                    · intro W hSw; go_simp; try with_reducible rfl
                    try simp only [Act.put, List.setIfInBounds_toArray, List.set_cons_zero, List.set_cons_succ]
                    refine wpAnyL_pure (i := 4) (oi := _) (v := ?_) (some 98) rfl rfl (by kernel_rfl) (by kernel_rfl) (by kernel_rfl) (by kernel_rfl) (fun _ _ _ h => h) (fun _ => HS0.out) (Or.inl ⟨by rfl, ?_⟩) ?_
                    rotate_left
                    · intro W hSw; go_simp; try with_reducible rfl
                    try simp only [Act.put, List.setIfInBounds_toArray, List.set_cons_zero, List.set_cons_succ]
                    refine wpAnyL_load (i := 5) (oi := _) (v := ?_) (some 99) rfl rfl (by kernel_rfl) (by kernel_rfl) (by kernel_rfl) (by kernel_rfl) (fun _ _ _ h => h) (fun _ => HS0.out) (by kernel_rfl) (by kernel_rfl) (Or.inl ⟨by rfl, ?_⟩) ?_
                    rotate_left
                    · intro W hSw; go_simp; try with_reducible rfl
                    try simp only [Act.put, List.setIfInBounds_toArray, List.set_cons_zero, List.set_cons_succ]
                    refine wpAnyL_pure (i := 6) (oi := _) (v := ?_) (some 100) rfl rfl (by kernel_rfl) (by kernel_rfl) (by kernel_rfl) (by kernel_rfl) (fun _ _ _ h => h) (fun _ => HS0.out) (Or.inl ⟨by rfl, ?_⟩) ?_
                    rotate_left
                    · intro W hSw; go_simp; try with_reducible rfl
                    try simp only [Act.put, List.setIfInBounds_toArray, List.set_cons_zero, List.set_cons_succ]
                    refine wpAnyL_pure (i := 7) (oi := _) (v := ?_) (some 101) rfl rfl (by kernel_rfl) (by kernel_rfl) (by kernel_rfl) (by kernel_rfl) (fun _ _ _ h => h) (fun _ => HS0.out) (Or.inl ⟨by rfl, ?_⟩) ?_
                    rotate_left
                    · intro W hSw; go_simp; try with_reducible rfl
                    try simp only [Act.put, List.setIfInBounds_toArray, List.set_cons_zero, List.set_cons_succ]
                    refine wpAnyL_pure (i := 8) (oi := _) (v := ?_) (some 102) rfl rfl (by kernel_rfl) (by kernel_rfl) (by kernel_rfl) (by kernel_rfl) (fun _ _ _ h => h) (fun _ => HS0.out) (Or.inl ⟨by rfl, ?_⟩) ?_
                    rotate_left
                    · intro W hSw; go_simp; try with_reducible rfl
                    try simp only [Act.put, List.setIfInBounds_toArray, List.set_cons_zero, List.set_cons_succ]
                    refine wpAnyL_pure (i := 9) (oi := _) (v := ?_) (some 103) rfl rfl (by kernel_rfl) (by kernel_rfl) (by kernel_rfl) (by kernel_rfl) (fun _ _ _ h => h) (fun _ => HS0.out) (Or.inl ⟨by rfl, ?_⟩) ?_
                    rotate_left
                    · intro W hSw; go_simp; try with_reducible rfl
                    try simp only [Act.put, List.setIfInBounds_toArray, List.set_cons_zero, List.set_cons_succ]
                    refine wpAnyL_pure (i := 10) (oi := _) (v := undef) (some 104) rfl rfl (by kernel_rfl) (by kernel_rfl) (by kernel_rfl) (by kernel_rfl) (fun _ _ _ h => h) (fun _ => HS0.out) (Or.inr ⟨by rfl, rfl⟩) ?_
                    try simp only [Act.put, List.setIfInBounds_toArray, List.set_cons_zero, List.set_cons_succ]
                    refine wpAnyL_pure (i := 11) (oi := _) (v := undef) (some 105) rfl rfl (by kernel_rfl) (by kernel_rfl) (by kernel_rfl) (by kernel_rfl) (fun _ _ _ h => h) (fun _ => HS0.out) (Or.inr ⟨by rfl, rfl⟩) ?_
                    try simp only [Act.put, List.setIfInBounds_toArray, List.set_cons_zero, List.set_cons_succ]
                    refine wpAnyL_pure (i := 12) (oi := _) (v := undef) (some 106) rfl rfl (by kernel_rfl) (by kernel_rfl) (by kernel_rfl) (by kernel_rfl) (fun _ _ _ h => h) (fun _ => HS0.out) (Or.inr ⟨by rfl, rfl⟩) ?_
                    try simp only [Act.put, List.setIfInBounds_toArray, List.set_cons_zero, List.set_cons_succ]
                    refine wpAnyL_pure (i := 13) (oi := _) (v := undef) (some 107) rfl rfl (by kernel_rfl) (by kernel_rfl) (by kernel_rfl) (by kernel_rfl) (fun _ _ _ h => h) (fun _ => HS0.out) (Or.inr ⟨by rfl, rfl⟩) ?_
                    try simp only [Act.put, List.setIfInBounds_toArray, List.set_cons_zero, List.set_cons_succ]
                    refine wpAnyL_pure (i := 14) (oi := _) (v := undef) (some 108) rfl rfl (by kernel_rfl) (by kernel_rfl) (by kernel_rfl) (by kernel_rfl) (fun _ _ _ h => h) (fun _ => HS0.out) (Or.inr ⟨by rfl, rfl⟩) ?_
                    try simp only [Act.put, List.setIfInBounds_toArray, List.set_cons_zero, List.set_cons_succ]
                    refine wpAnyL_pure (i := 15) (oi := _) (v := undef) (some 109) rfl rfl (by kernel_rfl) (by kernel_rfl) (by kernel_rfl) (by kernel_rfl) (fun _ _ _ h => h) (fun _ => HS0.out) (Or.inr ⟨by rfl, rfl⟩) ?_
                    try simp only [Act.put, List.setIfInBounds_toArray, List.set_cons_zero, List.set_cons_succ]
                    refine wpAnyL_pure (i := 16) (oi := _) (v := undef) (some 110) rfl rfl (by kernel_rfl) (by kernel_rfl) (by kernel_rfl) (by kernel_rfl) (fun _ _ _ h => h) (fun _ => HS0.out) (Or.inr ⟨by rfl, rfl⟩) ?_
                    try simp only [Act.put, List.setIfInBounds_toArray, List.set_cons_zero, List.set_cons_succ]
                    refine wpAnyL_pure (i := 17) (oi := _) (v := undef) (some 111) rfl rfl (by kernel_rfl) (by kernel_rfl) (by kernel_rfl) (by kernel_rfl) (fun _ _ _ h => h) (fun _ => HS0.out) (Or.inr ⟨by rfl, rfl⟩) ?_
                    try simp only [Act.put, List.setIfInBounds_toArray, List.set_cons_zero, List.set_cons_succ]
                    refine wpAnyL_pure (i := 18) (oi := _) (v := undef) (some 112) rfl rfl (by kernel_rfl) (by kernel_rfl) (by kernel_rfl) (by kernel_rfl) (fun _ _ _ h => h) (fun _ => HS0.out) (Or.inr ⟨by rfl, rfl⟩) ?_
                    try simp only [Act.put, List.setIfInBounds_toArray, List.set_cons_zero, List.set_cons_succ]
                    refine wpAnyL_pure (i := 19) (oi := _) (v := undef) (some 113) rfl rfl (by kernel_rfl) (by kernel_rfl) (by kernel_rfl) (by kernel_rfl) (fun _ _ _ h => h) (fun _ => HS0.out) (Or.inr ⟨by rfl, rfl⟩) ?_
                    try simp only [Act.put, List.setIfInBounds_toArray, List.set_cons_zero, List.set_cons_succ]
                    refine wpAnyL_pure (i := 20) (oi := _) (v := undef) (some 114) rfl rfl (by kernel_rfl) (by kernel_rfl) (by kernel_rfl) (by kernel_rfl) (fun _ _ _ h => h) (fun _ => HS0.out) (Or.inr ⟨by rfl, rfl⟩) ?_
                    try simp only [Act.put, List.setIfInBounds_toArray, List.set_cons_zero, List.set_cons_succ]
                    refine wpAnyL_pure (i := 21) (oi := _) (v := undef) (some 115) rfl rfl (by kernel_rfl) (by kernel_rfl) (by kernel_rfl) (by kernel_rfl) (fun _ _ _ h => h) (fun _ => HS0.out) (Or.inr ⟨by rfl, rfl⟩) ?_
                    try simp only [Act.put, List.setIfInBounds_toArray, List.set_cons_zero, List.set_cons_succ]
                    refine wpAnyL_pure (i := 22) (oi := _) (v := ?_) (some 116) rfl rfl (by kernel_rfl) (by kernel_rfl) (by kernel_rfl) (by kernel_rfl) (fun _ _ _ h => h) (fun _ => HS0.out) (Or.inl ⟨by rfl, ?_⟩) ?_
                    rotate_left
                    · intro W hSw; go_simp; try with_reducible rfl
                    try simp only [Act.put, List.setIfInBounds_toArray, List.set_cons_zero, List.set_cons_succ]
                    refine wpAnyL_pure (i := 23) (oi := _) (v := ?_) (some 117) rfl rfl (by kernel_rfl) (by kernel_rfl) (by kernel_rfl) (by kernel_rfl) (fun _ _ _ h => h) (fun _ => HS0.out) (Or.inl ⟨by rfl, ?_⟩) ?_
                    rotate_left
                    · intro W hSw; go_simp; try with_reducible rfl
                    try simp only [Act.put, List.setIfInBounds_toArray, List.set_cons_zero, List.set_cons_succ]
                    refine wpAnyL_pure (i := 24) (oi := _) (v := undef) (some 118) rfl rfl (by kernel_rfl) (by kernel_rfl) (by kernel_rfl) (by kernel_rfl) (fun _ _ _ h => h) (fun _ => HS0.out) (Or.inr ⟨by rfl, rfl⟩) ?_
                    try simp only [Act.put, List.setIfInBounds_toArray, List.set_cons_zero, List.set_cons_succ]
                    refine wpAnyL_pure (i := 25) (oi := _) (v := undef) (some 119) rfl rfl (by kernel_rfl) (by kernel_rfl) (by kernel_rfl) (by kernel_rfl) (fun _ _ _ h => h) (fun _ => HS0.out) (Or.inr ⟨by rfl, rfl⟩) ?_
                    try simp only [Act.put, List.setIfInBounds_toArray, List.set_cons_zero, List.set_cons_succ]
                    refine wpAnyL_pure (i := 26) (oi := _) (v := undef) (some 120) rfl rfl (by kernel_rfl) (by kernel_rfl) (by kernel_rfl) (by kernel_rfl) (fun _ _ _ h => h) (fun _ => HS0.out) (Or.inr ⟨by rfl, rfl⟩) ?_
                    try simp only [Act.put, List.setIfInBounds_toArray, List.set_cons_zero, List.set_cons_succ]
                    refine wpAnyL_pure (i := 27) (oi := _) (v := undef) (some 121) rfl rfl (by kernel_rfl) (by kernel_rfl) (by kernel_rfl) (by kernel_rfl) (fun _ _ _ h => h) (fun _ => HS0.out) (Or.inr ⟨by rfl, rfl⟩) ?_
                    try simp only [Act.put, List.setIfInBounds_toArray, List.set_cons_zero, List.set_cons_succ]
                    refine wpAnyL_pure (i := 28) (oi := _) (v := undef) (some 122) rfl rfl (by kernel_rfl) (by kernel_rfl) (by kernel_rfl) (by kernel_rfl) (fun _ _ _ h => h) (fun _ => HS0.out) (Or.inr ⟨by rfl, rfl⟩) ?_
                    try simp only [Act.put, List.setIfInBounds_toArray, List.set_cons_zero, List.set_cons_succ]
                    refine wpAnyL_pure (i := 29) (oi := _) (v := undef) (some 123) rfl rfl (by kernel_rfl) (by kernel_rfl) (by kernel_rfl) (by kernel_rfl) (fun _ _ _ h => h) (fun _ => HS0.out) (Or.inr ⟨by rfl, rfl⟩) ?_
                    try simp only [Act.put, List.setIfInBounds_toArray, List.set_cons_zero, List.set_cons_succ]
                    refine wpAnyL_pure (i := 30) (oi := _) (v := undef) (some 124) rfl rfl (by kernel_rfl) (by kernel_rfl) (by kernel_rfl) (by kernel_rfl) (fun _ _ _ h => h) (fun _ => HS0.out) (Or.inr ⟨by rfl, rfl⟩) ?_
                    try simp only [Act.put, List.setIfInBounds_toArray, List.set_cons_zero, List.set_cons_succ]
                    refine wpAnyL_pure (i := 31) (oi := _) (v := undef) (some 125) rfl rfl (by kernel_rfl) (by kernel_rfl) (by kernel_rfl) (by kernel_rfl) (fun _ _ _ h => h) (fun _ => HS0.out) (Or.inr ⟨by rfl, rfl⟩) ?_
                    try simp only [Act.put, List.setIfInBounds_toArray, List.set_cons_zero, List.set_cons_succ]
                    refine wpAnyL_pure (i := 32) (oi := _) (v := undef) (some 126) rfl rfl (by kernel_rfl) (by kernel_rfl) (by kernel_rfl) (by kernel_rfl) (fun _ _ _ h => h) (fun _ => HS0.out) (Or.inr ⟨by rfl, rfl⟩) ?_
                    try simp only [Act.put, List.setIfInBounds_toArray, List.set_cons_zero, List.set_cons_succ]
                    refine wpAnyL_pure (i := 33) (oi := _) (v := undef) (some 127) rfl rfl (by kernel_rfl) (by kernel_rfl) (by kernel_rfl) (by kernel_rfl) (fun _ _ _ h => h) (fun _ => HS0.out) (Or.inr ⟨by rfl, rfl⟩) ?_
                    try simp only [Act.put, List.setIfInBounds_toArray, List.set_cons_zero, List.set_cons_succ]
                    refine wpAnyL_pure (i := 34) (oi := _) (v := undef) (some 128) rfl rfl (by kernel_rfl) (by kernel_rfl) (by kernel_rfl) (by kernel_rfl) (fun _ _ _ h => h) (fun _ => HS0.out) (Or.inr ⟨by rfl, rfl⟩) ?_
                    try simp only [Act.put, List.setIfInBounds_toArray, List.set_cons_zero, List.set_cons_succ]
                    refine wpAnyL_pure (i := 35) (oi := _) (v := undef) (some 129) rfl rfl (by kernel_rfl) (by kernel_rfl) (by kernel_rfl) (by kernel_rfl) (fun _ _ _ h => h) (fun _ => HS0.out) (Or.inr ⟨by rfl, rfl⟩) ?_
                    try simp only [Act.put, List.setIfInBounds_toArray, List.set_cons_zero, List.set_cons_succ]
                    refine wpAnyL_pure (i := 36) (oi := _) (v := undef) (some 130) rfl rfl (by kernel_rfl) (by kernel_rfl) (by kernel_rfl) (by kernel_rfl) (fun _ _ _ h => h) (fun _ => HS0.out) (Or.inr ⟨by rfl, rfl⟩) ?_
                    try simp only [Act.put, List.setIfInBounds_toArray, List.set_cons_zero, List.set_cons_succ]
                    refine wpAnyL_pure (i := 37) (oi := _) (v := undef) (some 131) rfl rfl (by kernel_rfl) (by kernel_rfl) (by kernel_rfl) (by kernel_rfl) (fun _ _ _ h => h) (fun _ => HS0.out) (Or.inr ⟨by rfl, rfl⟩) ?_
                    try simp only [Act.put, List.setIfInBounds_toArray, List.set_cons_zero, List.set_cons_succ]
                    refine wpAnyL_pure (i := 38) (oi := _) (v := undef) (some 132) rfl rfl (by kernel_rfl) (by kernel_rfl) (by kernel_rfl) (by kernel_rfl) (fun _ _ _ h => h) (fun _ => HS0.out) (Or.inr ⟨by rfl, rfl⟩) ?_
                    try simp only [Act.put, List.setIfInBounds_toArray, List.set_cons_zero, List.set_cons_succ]
                    refine wpAnyL_pure (i := 39) (oi := _) (v := undef) (some 133) rfl rfl (by kernel_rfl) (by kernel_rfl) (by kernel_rfl) (by kernel_rfl) (fun _ _ _ h => h) (fun _ => HS0.out) (Or.inr ⟨by rfl, rfl⟩) ?_
                    try simp only [Act.put, List.setIfInBounds_toArray, List.set_cons_zero, List.set_cons_succ]
                    refine wpAnyL_pure (i := 40) (oi := _) (v := undef) (some 134) rfl rfl (by kernel_rfl) (by kernel_rfl) (by kernel_rfl) (by kernel_rfl) (fun _ _ _ h => h) (fun _ => HS0.out) (Or.inr ⟨by rfl, rfl⟩) ?_
                    try simp only [Act.put, List.setIfInBounds_toArray, List.set_cons_zero, List.set_cons_succ]
                    refine wpAnyL_pure (i := 41) (oi := _) (v := undef) (some 135) rfl rfl (by kernel_rfl) (by kernel_rfl) (by kernel_rfl) (by kernel_rfl) (fun _ _ _ h => h) (fun _ => HS0.out) (Or.inr ⟨by rfl, rfl⟩) ?_
                    try simp only [Act.put, List.setIfInBounds_toArray, List.set_cons_zero, List.set_cons_succ]
                    refine wpAnyL_pure (i := 42) (oi := _) (v := undef) (some 136) rfl rfl (by kernel_rfl) (by kernel_rfl) (by kernel_rfl) (by kernel_rfl) (fun _ _ _ h => h) (fun _ => HS0.out) (Or.inr ⟨by rfl, rfl⟩) ?_
                    try simp only [Act.put, List.setIfInBounds_toArray, List.set_cons_zero, List.set_cons_succ]
                    refine wpAnyL_pure (i := 43) (oi := _) (v := ?_) (some 137) rfl rfl (by kernel_rfl) (by kernel_rfl) (by kernel_rfl) (by kernel_rfl) (fun _ _ _ h => h) (fun _ => HS0.out) (Or.inl ⟨by rfl, ?_⟩) ?_
                    rotate_left
                    · intro W hSw; go_simp; try with_reducible rfl
                    try simp only [Act.put, List.setIfInBounds_toArray, List.set_cons_zero, List.set_cons_succ]
                    refine wpAnyL_done (by kernel_rfl) ?_ _
                    go_wp2_with fail
                    go_ret
                    exact ⟨by rw [HV2.out, kidsB_no (i := (m + 1)) hlt (by rw [HKD.out]; exact HKV.out)]; rfl, bthen (bthen HB.out HBW.out) (Below.refl _ _).drew⟩
                  · have hkg' : decide ((g.length : Int) ≤ k) = false := decide_eq_false hkg
                    obtain ⟨kn, rfl⟩ : ∃ kn : Nat, k = kn := ⟨k.toNat, by omega⟩
                    have hkn : kn < g.length := by omega
                    have hkgN : decide (g.length ≤ kn) = false := decide_eq_false (by omega)
                    have hkgM : (g.length ≤ kn) = False := eq_false (by omega)
                    have hkg : (kn : Int) < (g.length : Int) := by omega
                    have hk0 : ¬ ((kn : Int) < 0) := by omega
                    obtain ⟨bz, oz, Az2, cz2, Az3, cz3, rfl, _, hbz, hNz, z0, z1, z2, z3⟩ := nd_cells (HG.out.keep (HB.out.trans (HBW.out.mono HB.out.size)).size (fun b hb _ => (HB.out.trans (HBW.out.mono HB.out.size)).block b hb) (fun _ hb hs => (⟨hs, hb⟩ : S _ ∧ _ < w.heap.size))) hkn
                    have HZ := Lib.hid (show ndAt g (kn : Int) = g[kn] by simp [ndAt, hkn])
                    generalize g[kn] = z at *
                    clear hNz z0 z2
                    by_cases hkp : zp = (kn : Int)
                    · have hkp' : (zp == (kn : Int)) = true := by simp [hkp]
                      have HKV := Lib.hid (show kidB g ⟨false, fn, xc, xk⟩ (m + 1) (kn : Int) = false by simp [kidB, HZP.out, hkp])
                      clear hkp hk0 hkg
                      go_wp2_with fail
                      have HS0 : Hid (∀ a, wr.drew.cell? a = wr.cell? a) := Lib.hid (fun _ => rfl)
                      refine wp_region_L (S := fun W => ∀ a, W.cell? a = wr.cell? a) (T := []) (by kernel_rfl) HS0.out (fun _ => ?_)
                      refine wpAnyL_pure (i := 0) (oi := _) (v := ?_) (some 94) rfl rfl (by kernel_rfl) (by kernel_rfl) (by kernel_rfl) (by kernel_rfl) (fun _ _ _ h => h) (fun _ => HS0.out) (Or.inl ⟨by rfl, ?_⟩) ?_
                      rotate_left
                      · intro W hSw; go_simp; try with_reducible rfl
                      try simp only [Act.put, List.setIfInBounds_toArray, List.set_cons_zero, List.set_cons_succ]
                      refine wpAnyL_pure (i := 1) (oi := _) (v := ?_) (some 95) rfl rfl (by kernel_rfl) (by kernel_rfl) (by kernel_rfl) (by kernel_rfl) (fun _ _ _ h => h) (fun _ => HS0.out) (Or.inl ⟨by rfl, ?_⟩) ?_
                      rotate_left
                      · intro W hSw; go_simp; try with_reducible rfl
                      try simp only [Act.put, List.setIfInBounds_toArray, List.set_cons_zero, List.set_cons_succ]
                      refine wpAnyL_pure (i := 2) (oi := _) (v := ?_) (some 96) rfl rfl (by kernel_rfl) (by kernel_rfl) (by kernel_rfl) (by kernel_rfl) (fun _ _ _ h => h) (fun _ => HS0.out) (Or.inl ⟨by rfl, ?_⟩) ?_
                      rotate_left
                      · intro W hSw; go_simp; try with_reducible rfl
                      try simp only [Act.put, List.setIfInBounds_toArray, List.set_cons_zero, List.set_cons_succ]
                      refine wpAnyL_pure (i := 3) (oi := _) (v := ?_) (some 97) rfl rfl (by kernel_rfl) (by kernel_rfl) (by kernel_rfl) (by kernel_rfl) (fun _ _ _ h => h) (fun _ => HS0.out) (Or.inl ⟨by rfl, ?_⟩) ?_
                      rotate_left
                      · intro W hSw; go_simp; try with_reducible rfl
                      try simp only [Act.put, List.setIfInBounds_toArray, List.set_cons_zero, List.set_cons_succ]
                      refine wpAnyL_pure (i := 4) (oi := _) (v := ?_) (some 98) rfl rfl (by kernel_rfl) (by kernel_rfl) (by kernel_rfl) (by kernel_rfl) (fun _ _ _ h => h) (fun _ => HS0.out) (Or.inl ⟨by rfl, ?_⟩) ?_
                      rotate_left
                      · intro W hSw; go_simp; try with_reducible rfl
                      try simp only [Act.put, List.setIfInBounds_toArray, List.set_cons_zero, List.set_cons_succ]
                      refine wpAnyL_load (i := 5) (oi := _) (v := ?_) (some 99) rfl rfl (by kernel_rfl) (by kernel_rfl) (by kernel_rfl) (by kernel_rfl) (fun _ _ _ h => h) (fun _ => HS0.out) (by kernel_rfl) (by kernel_rfl) (Or.inl ⟨by rfl, ?_⟩) ?_
                      rotate_left
                      · intro W hSw; go_simp; try with_reducible rfl
                      try simp only [Act.put, List.setIfInBounds_toArray, List.set_cons_zero, List.set_cons_succ]
                      refine wpAnyL_pure (i := 6) (oi := _) (v := ?_) (some 100) rfl rfl (by kernel_rfl) (by kernel_rfl) (by kernel_rfl) (by kernel_rfl) (fun _ _ _ h => h) (fun _ => HS0.out) (Or.inl ⟨by rfl, ?_⟩) ?_
                      rotate_left
                      · intro W hSw; go_simp; try with_reducible rfl
                      try simp only [Act.put, List.setIfInBounds_toArray, List.set_cons_zero, List.set_cons_succ]
                      refine wpAnyL_pure (i := 7) (oi := _) (v := ?_) (some 101) rfl rfl (by kernel_rfl) (by kernel_rfl) (by kernel_rfl) (by kernel_rfl) (fun _ _ _ h => h) (fun _ => HS0.out) (Or.inl ⟨by rfl, ?_⟩) ?_
                      rotate_left
                      · intro W hSw; go_simp; try with_reducible rfl
                      try simp only [Act.put, List.setIfInBounds_toArray, List.set_cons_zero, List.set_cons_succ]
                      refine wpAnyL_pure (i := 8) (oi := _) (v := ?_) (some 102) rfl rfl (by kernel_rfl) (by kernel_rfl) (by kernel_rfl) (by kernel_rfl) (fun _ _ _ h => h) (fun _ => HS0.out) (Or.inl ⟨by rfl, ?_⟩) ?_
                      rotate_left
                      · intro W hSw; go_simp; try with_reducible rfl
                      try simp only [Act.put, List.setIfInBounds_toArray, List.set_cons_zero, List.set_cons_succ]
                      refine wpAnyL_pure (i := 9) (oi := _) (v := ?_) (some 103) rfl rfl (by kernel_rfl) (by kernel_rfl) (by kernel_rfl) (by kernel_rfl) (fun _ _ _ h => h) (fun _ => HS0.out) (Or.inl ⟨by rfl, ?_⟩) ?_
                      rotate_left
                      · intro W hSw; go_simp; try with_reducible rfl
                      try simp only [Act.put, List.setIfInBounds_toArray, List.set_cons_zero, List.set_cons_succ]
                      refine wpAnyL_pure (i := 10) (oi := _) (v := ?_) (some 104) rfl rfl (by kernel_rfl) (by kernel_rfl) (by kernel_rfl) (by kernel_rfl) (fun _ _ _ h => h) (fun _ => HS0.out) (Or.inl ⟨by rfl, ?_⟩) ?_
                      rotate_left
                      · intro W hSw; go_simp; try with_reducible rfl
                      try simp only [Act.put, List.setIfInBounds_toArray, List.set_cons_zero, List.set_cons_succ]
                      refine wpAnyL_pure (i := 11) (oi := _) (v := ?_) (some 105) rfl rfl (by kernel_rfl) (by kernel_rfl) (by kernel_rfl) (by kernel_rfl) (fun _ _ _ h => h) (fun _ => HS0.out) (Or.inl ⟨by rfl, ?_⟩) ?_
                      rotate_left
                      · intro W hSw; go_simp; try with_reducible rfl
                      try simp only [Act.put, List.setIfInBounds_toArray, List.set_cons_zero, List.set_cons_succ]
                      refine wpAnyL_pure (i := 12) (oi := _) (v := ?_) (some 106) rfl rfl (by kernel_rfl) (by kernel_rfl) (by kernel_rfl) (by kernel_rfl) (fun _ _ _ h => h) (fun _ => HS0.out) (Or.inl ⟨by rfl, ?_⟩) ?_
                      rotate_left
                      · intro W hSw; go_simp; try with_reducible rfl
                      try simp only [Act.put, List.setIfInBounds_toArray, List.set_cons_zero, List.set_cons_succ]
                      refine wpAnyL_pure (i := 13) (oi := _) (v := ?_) (some 107) rfl rfl (by kernel_rfl) (by kernel_rfl) (by kernel_rfl) (by kernel_rfl) (fun _ _ _ h => h) (fun _ => HS0.out) (Or.inl ⟨by rfl, ?_⟩) ?_
                      rotate_left
                      · intro W hSw; go_simp; try with_reducible rfl
                      try simp only [Act.put, List.setIfInBounds_toArray, List.set_cons_zero, List.set_cons_succ]
                      refine wpAnyL_load (i := 14) (oi := _) (v := ?_) (some 108) rfl rfl (by kernel_rfl) (by kernel_rfl) (by kernel_rfl) (by kernel_rfl) (fun _ _ _ h => h) (fun _ => HS0.out) (by kernel_rfl) (by kernel_rfl) (Or.inl ⟨by rfl, ?_⟩) ?_
                      rotate_left
                      · intro W hSw; go_simp; try with_reducible rfl
                      try simp only [Act.put, List.setIfInBounds_toArray, List.set_cons_zero, List.set_cons_succ]
                      refine wpAnyL_pure (i := 15) (oi := _) (v := ?_) (some 109) rfl rfl (by kernel_rfl) (by kernel_rfl) (by kernel_rfl) (by kernel_rfl) (fun _ _ _ h => h) (fun _ => HS0.out) (Or.inl ⟨by rfl, ?_⟩) ?_
                      rotate_left
                      · intro W hSw; go_simp; try with_reducible rfl
                      try simp only [Act.put, List.setIfInBounds_toArray, List.set_cons_zero, List.set_cons_succ]
                      refine wpAnyL_pure (i := 16) (oi := _) (v := ?_) (some 110) rfl rfl (by kernel_rfl) (by kernel_rfl) (by kernel_rfl) (by kernel_rfl) (fun _ _ _ h => h) (fun _ => HS0.out) (Or.inl ⟨by rfl, ?_⟩) ?_
                      rotate_left
                      · intro W hSw; go_simp; try with_reducible rfl
                      try simp only [Act.put, List.setIfInBounds_toArray, List.set_cons_zero, List.set_cons_succ]
                      refine wpAnyL_pure (i := 17) (oi := _) (v := ?_) (some 111) rfl rfl (by kernel_rfl) (by kernel_rfl) (by kernel_rfl) (by kernel_rfl) (fun _ _ _ h => h) (fun _ => HS0.out) (Or.inl ⟨by rfl, ?_⟩) ?_
                      rotate_left
                      · intro W hSw; go_simp; try with_reducible rfl
                      try simp only [Act.put, List.setIfInBounds_toArray, List.set_cons_zero, List.set_cons_succ]
                      refine wpAnyL_load (i := 18) (oi := _) (v := ?_) (some 112) rfl rfl (by kernel_rfl) (by kernel_rfl) (by kernel_rfl) (by kernel_rfl) (fun _ _ _ h => h) (fun _ => HS0.out) (by kernel_rfl) (by kernel_rfl) (Or.inl ⟨by rfl, ?_⟩) ?_
                      rotate_left
                      · intro W hSw; go_simp; try with_reducible rfl
                      try simp only [Act.put, List.setIfInBounds_toArray, List.set_cons_zero, List.set_cons_succ]
                      refine wpAnyL_pure (i := 19) (oi := _) (v := ?_) (some 113) rfl rfl (by kernel_rfl) (by kernel_rfl) (by kernel_rfl) (by kernel_rfl) (fun _ _ _ h => h) (fun _ => HS0.out) (Or.inl ⟨by rfl, ?_⟩) ?_
                      rotate_left
                      · intro W hSw; go_simp; try with_reducible rfl
                      try simp only [Act.put, List.setIfInBounds_toArray, List.set_cons_zero, List.set_cons_succ]
                      refine wpAnyL_pure (i := 20) (oi := _) (v := ?_) (some 114) rfl rfl (by kernel_rfl) (by kernel_rfl) (by kernel_rfl) (by kernel_rfl) (fun _ _ _ h => h) (fun _ => HS0.out) (Or.inl ⟨by rfl, ?_⟩) ?_
                      rotate_left
                      · intro W hSw; go_simp; try with_reducible rfl
                      try simp only [Act.put, List.setIfInBounds_toArray, List.set_cons_zero, List.set_cons_succ]
                      refine wpAnyL_pure (i := 21) (oi := _) (v := ?_) (some 115) rfl rfl (by kernel_rfl) (by kernel_rfl) (by kernel_rfl) (by kernel_rfl) (fun _ _ _ h => h) (fun _ => HS0.out) (Or.inl ⟨by rfl, ?_⟩) ?_
                      rotate_left
                      · intro W hSw; go_simp; try with_reducible rfl
                      try simp only [Act.put, List.setIfInBounds_toArray, List.set_cons_zero, List.set_cons_succ]
                      refine wpAnyL_pure (i := 22) (oi := _) (v := ?_) (some 116) rfl rfl (by kernel_rfl) (by kernel_rfl) (by kernel_rfl) (by kernel_rfl) (fun _ _ _ h => h) (fun _ => HS0.out) (Or.inl ⟨by rfl, ?_⟩) ?_
                      rotate_left
                      · intro W hSw; go_simp; try with_reducible rfl
                      try simp only [Act.put, List.setIfInBounds_toArray, List.set_cons_zero, List.set_cons_succ]
                      refine wpAnyL_pure (i := 23) (oi := _) (v := ?_) (some 117) rfl rfl (by kernel_rfl) (by kernel_rfl) (by kernel_rfl) (by kernel_rfl) (fun _ _ _ h => h) (fun _ => HS0.out) (Or.inl ⟨by rfl, ?_⟩) ?_
                      rotate_left
                      · intro W hSw; go_simp; try with_reducible rfl
                      try simp only [Act.put, List.setIfInBounds_toArray, List.set_cons_zero, List.set_cons_succ]
                      refine wpAnyL_pure (i := 24) (oi := _) (v := undef) (some 118) rfl rfl (by kernel_rfl) (by kernel_rfl) (by kernel_rfl) (by kernel_rfl) (fun _ _ _ h => h) (fun _ => HS0.out) (Or.inr ⟨by rfl, rfl⟩) ?_
                      try simp only [Act.put, List.setIfInBounds_toArray, List.set_cons_zero, List.set_cons_succ]
                      refine wpAnyL_pure (i := 25) (oi := _) (v := undef) (some 119) rfl rfl (by kernel_rfl) (by kernel_rfl) (by kernel_rfl) (by kernel_rfl) (fun _ _ _ h => h) (fun _ => HS0.out) (Or.inr ⟨by rfl, rfl⟩) ?_
                      try simp only [Act.put, List.setIfInBounds_toArray, List.set_cons_zero, List.set_cons_succ]
                      refine wpAnyL_pure (i := 26) (oi := _) (v := undef) (some 120) rfl rfl (by kernel_rfl) (by kernel_rfl) (by kernel_rfl) (by kernel_rfl) (fun _ _ _ h => h) (fun _ => HS0.out) (Or.inr ⟨by rfl, rfl⟩) ?_
                      try simp only [Act.put, List.setIfInBounds_toArray, List.set_cons_zero, List.set_cons_succ]
                      refine wpAnyL_pure (i := 27) (oi := _) (v := undef) (some 121) rfl rfl (by kernel_rfl) (by kernel_rfl) (by kernel_rfl) (by kernel_rfl) (fun _ _ _ h => h) (fun _ => HS0.out) (Or.inr ⟨by rfl, rfl⟩) ?_
                      try simp only [Act.put, List.setIfInBounds_toArray, List.set_cons_zero, List.set_cons_succ]
                      refine wpAnyL_pure (i := 28) (oi := _) (v := undef) (some 122) rfl rfl (by kernel_rfl) (by kernel_rfl) (by kernel_rfl) (by kernel_rfl) (fun _ _ _ h => h) (fun _ => HS0.out) (Or.inr ⟨by rfl, rfl⟩) ?_
                      try simp only [Act.put, List.setIfInBounds_toArray, List.set_cons_zero, List.set_cons_succ]
                      refine wpAnyL_pure (i := 29) (oi := _) (v := undef) (some 123) rfl rfl (by kernel_rfl) (by kernel_rfl) (by kernel_rfl) (by kernel_rfl) (fun _ _ _ h => h) (fun _ => HS0.out) (Or.inr ⟨by rfl, rfl⟩) ?_
                      try simp only [Act.put, List.setIfInBounds_toArray, List.set_cons_zero, List.set_cons_succ]
                      refine wpAnyL_pure (i := 30) (oi := _) (v := undef) (some 124) rfl rfl (by kernel_rfl) (by kernel_rfl) (by kernel_rfl) (by kernel_rfl) (fun _ _ _ h => h) (fun _ => HS0.out) (Or.inr ⟨by rfl, rfl⟩) ?_
                      try simp only [Act.put, List.setIfInBounds_toArray, List.set_cons_zero, List.set_cons_succ]
                      refine wpAnyL_pure (i := 31) (oi := _) (v := undef) (some 125) rfl rfl (by kernel_rfl) (by kernel_rfl) (by kernel_rfl) (by kernel_rfl) (fun _ _ _ h => h) (fun _ => HS0.out) (Or.inr ⟨by rfl, rfl⟩) ?_
                      try simp only [Act.put, List.setIfInBounds_toArray, List.set_cons_zero, List.set_cons_succ]
                      refine wpAnyL_pure (i := 32) (oi := _) (v := undef) (some 126) rfl rfl (by kernel_rfl) (by kernel_rfl) (by kernel_rfl) (by kernel_rfl) (fun _ _ _ h => h) (fun _ => HS0.out) (Or.inr ⟨by rfl, rfl⟩) ?_
                      try simp only [Act.put, List.setIfInBounds_toArray, List.set_cons_zero, List.set_cons_succ]
                      refine wpAnyL_pure (i := 33) (oi := _) (v := undef) (some 127) rfl rfl (by kernel_rfl) (by kernel_rfl) (by kernel_rfl) (by kernel_rfl) (fun _ _ _ h => h) (fun _ => HS0.out) (Or.inr ⟨by rfl, rfl⟩) ?_
                      try simp only [Act.put, List.setIfInBounds_toArray, List.set_cons_zero, List.set_cons_succ]
                      refine wpAnyL_pure (i := 34) (oi := _) (v := undef) (some 128) rfl rfl (by kernel_rfl) (by kernel_rfl) (by kernel_rfl) (by kernel_rfl) (fun _ _ _ h => h) (fun _ => HS0.out) (Or.inr ⟨by rfl, rfl⟩) ?_
                      try simp only [Act.put, List.setIfInBounds_toArray, List.set_cons_zero, List.set_cons_succ]
                      refine wpAnyL_pure (i := 35) (oi := _) (v := undef) (some 129) rfl rfl (by kernel_rfl) (by kernel_rfl) (by kernel_rfl) (by kernel_rfl) (fun _ _ _ h => h) (fun _ => HS0.out) (Or.inr ⟨by rfl, rfl⟩) ?_
                      try simp only [Act.put, List.setIfInBounds_toArray, List.set_cons_zero, List.set_cons_succ]
                      refine wpAnyL_pure (i := 36) (oi := _) (v := undef) (some 130) rfl rfl (by kernel_rfl) (by kernel_rfl) (by kernel_rfl) (by kernel_rfl) (fun _ _ _ h => h) (fun _ => HS0.out) (Or.inr ⟨by rfl, rfl⟩) ?_
                      try simp only [Act.put, List.setIfInBounds_toArray, List.set_cons_zero, List.set_cons_succ]
                      refine wpAnyL_pure (i := 37) (oi := _) (v := undef) (some 131) rfl rfl (by kernel_rfl) (by kernel_rfl) (by kernel_rfl) (by kernel_rfl) (fun _ _ _ h => h) (fun _ => HS0.out) (Or.inr ⟨by rfl, rfl⟩) ?_
                      try simp only [Act.put, List.setIfInBounds_toArray, List.set_cons_zero, List.set_cons_succ]
                      refine wpAnyL_pure (i := 38) (oi := _) (v := undef) (some 132) rfl rfl (by kernel_rfl) (by kernel_rfl) (by kernel_rfl) (by kernel_rfl) (fun _ _ _ h => h) (fun _ => HS0.out) (Or.inr ⟨by rfl, rfl⟩) ?_
                      try simp only [Act.put, List.setIfInBounds_toArray, List.set_cons_zero, List.set_cons_succ]
                      refine wpAnyL_pure (i := 39) (oi := _) (v := undef) (some 133) rfl rfl (by kernel_rfl) (by kernel_rfl) (by kernel_rfl) (by kernel_rfl) (fun _ _ _ h => h) (fun _ => HS0.out) (Or.inr ⟨by rfl, rfl⟩) ?_
                      try simp only [Act.put, List.setIfInBounds_toArray, List.set_cons_zero, List.set_cons_succ]
                      refine wpAnyL_pure (i := 40) (oi := _) (v := undef) (some 134) rfl rfl (by kernel_rfl) (by kernel_rfl) (by kernel_rfl) (by kernel_rfl) (fun _ _ _ h => h) (fun _ => HS0.out) (Or.inr ⟨by rfl, rfl⟩) ?_
                      try simp only [Act.put, List.setIfInBounds_toArray, List.set_cons_zero, List.set_cons_succ]
                      refine wpAnyL_pure (i := 41) (oi := _) (v := undef) (some 135) rfl rfl (by kernel_rfl) (by kernel_rfl) (by kernel_rfl) (by kernel_rfl) (fun _ _ _ h => h) (fun _ => HS0.out) (Or.inr ⟨by rfl, rfl⟩) ?_
                      try simp only [Act.put, List.setIfInBounds_toArray, List.set_cons_zero, List.set_cons_succ]
                      refine wpAnyL_pure (i := 42) (oi := _) (v := undef) (some 136) rfl rfl (by kernel_rfl) (by kernel_rfl) (by kernel_rfl) (by kernel_rfl) (fun _ _ _ h => h) (fun _ => HS0.out) (Or.inr ⟨by rfl, rfl⟩) ?_
                      try simp only [Act.put, List.setIfInBounds_toArray, List.set_cons_zero, List.set_cons_succ]
                      refine wpAnyL_pure (i := 43) (oi := _) (v := ?_) (some 137) rfl rfl (by kernel_rfl) (by kernel_rfl) (by kernel_rfl) (by kernel_rfl) (fun _ _ _ h => h) (fun _ => HS0.out) (Or.inl ⟨by rfl, ?_⟩) ?_
                      rotate_left
                      · intro W hSw; go_simp; try with_reducible rfl
                      try simp only [Act.put, List.setIfInBounds_toArray, List.set_cons_zero, List.set_cons_succ]
                      refine wpAnyL_done (by kernel_rfl) ?_ _
                      go_wp2_with fail
                      go_ret
                      exact ⟨by rw [HV2.out, kidsB_no (i := (m + 1)) hlt (by rw [HKD.out]; exact HKV.out)]; rfl, bthen (bthen HB.out HBW.out) (Below.refl _ _).drew⟩
                    · have hkp' : (zp == (kn : Int)) = false := beq_eq_false_iff_ne.2 hkp
                      by_cases h6 : 0 < z.kids.length
                      · have h6' : (0 : Int) < (z.kids.length : Int) := by omega
                        by_cases h7 : z.fact ≤ (fn : Int)
                        · have HKV := Lib.hid (show kidB g ⟨false, fn, xc, xk⟩ (m + 1) (kn : Int) = false by simp [kidB, HZ.out, h6, h7])
                          clear hkp hk0 hkg
                          go_wp2_with fail
                          have HS0 : Hid (∀ a, wr.drew.cell? a = wr.cell? a) := Lib.hid (fun _ => rfl)
                          refine wp_region_L (S := fun W => ∀ a, W.cell? a = wr.cell? a) (T := []) (by kernel_rfl) HS0.out (fun _ => ?_)
                          refine wpAnyL_pure (i := 0) (oi := _) (v := ?_) (some 94) rfl rfl (by kernel_rfl) (by kernel_rfl) (by kernel_rfl) (by kernel_rfl) (fun _ _ _ h => h) (fun _ => HS0.out) (Or.inl ⟨by rfl, ?_⟩) ?_
                          rotate_left
                          · intro W hSw; go_simp; try with_reducible rfl
                          try simp only [Act.put, List.setIfInBounds_toArray, List.set_cons_zero, List.set_cons_succ]
                          refine wpAnyL_pure (i := 1) (oi := _) (v := ?_) (some 95) rfl rfl (by kernel_rfl) (by kernel_rfl) (by kernel_rfl) (by kernel_rfl) (fun _ _ _ h => h) (fun _ => HS0.out) (Or.inl ⟨by rfl, ?_⟩) ?_
                          rotate_left
                          · intro W hSw; go_simp; try with_reducible rfl
                          try simp only [Act.put, List.setIfInBounds_toArray, List.set_cons_zero, List.set_cons_succ]
                          refine wpAnyL_pure (i := 2) (oi := _) (v := ?_) (some 96) rfl rfl (by kernel_rfl) (by kernel_rfl) (by kernel_rfl) (by kernel_rfl) (fun _ _ _ h => h) (fun _ => HS0.out) (Or.inl ⟨by rfl, ?_⟩) ?_
                          rotate_left
                          · intro W hSw; go_simp; try with_reducible rfl
                          try simp only [Act.put, List.setIfInBounds_toArray, List.set_cons_zero, List.set_cons_succ]
                          refine wpAnyL_pure (i := 3) (oi := _) (v := ?_) (some 97) rfl rfl (by kernel_rfl) (by kernel_rfl) (by kernel_rfl) (by kernel_rfl) (fun _ _ _ h => h) (fun _ => HS0.out) (Or.inl ⟨by rfl, ?_⟩) ?_
                          rotate_left
                          · intro W hSw; go_simp; try with_reducible rfl
                          try simp only [Act.put, List.setIfInBounds_toArray, List.set_cons_zero, List.set_cons_succ]
                          refine wpAnyL_pure (i := 4) (oi := _) (v := ?_) (some 98) rfl rfl (by kernel_rfl) (by kernel_rfl) (by kernel_rfl) (by kernel_rfl) (fun _ _ _ h => h) (fun _ => HS0.out) (Or.inl ⟨by rfl, ?_⟩) ?_
                          rotate_left
                          · intro W hSw; go_simp; try with_reducible rfl
                          try simp only [Act.put, List.setIfInBounds_toArray, List.set_cons_zero, List.set_cons_succ]
                          refine wpAnyL_load (i := 5) (oi := _) (v := ?_) (some 99) rfl rfl (by kernel_rfl) (by kernel_rfl) (by kernel_rfl) (by kernel_rfl) (fun _ _ _ h => h) (fun _ => HS0.out) (by kernel_rfl) (by kernel_rfl) (Or.inl ⟨by rfl, ?_⟩) ?_
                          rotate_left
                          · intro W hSw; go_simp; try with_reducible rfl
                          try simp only [Act.put, List.setIfInBounds_toArray, List.set_cons_zero, List.set_cons_succ]
                          refine wpAnyL_pure (i := 6) (oi := _) (v := ?_) (some 100) rfl rfl (by kernel_rfl) (by kernel_rfl) (by kernel_rfl) (by kernel_rfl) (fun _ _ _ h => h) (fun _ => HS0.out) (Or.inl ⟨by rfl, ?_⟩) ?_
                          rotate_left
                          · intro W hSw; go_simp; try with_reducible rfl
                          try simp only [Act.put, List.setIfInBounds_toArray, List.set_cons_zero, List.set_cons_succ]
                          refine wpAnyL_pure (i := 7) (oi := _) (v := ?_) (some 101) rfl rfl (by kernel_rfl) (by kernel_rfl) (by kernel_rfl) (by kernel_rfl) (fun _ _ _ h => h) (fun _ => HS0.out) (Or.inl ⟨by rfl, ?_⟩) ?_
                          rotate_left
                          · intro W hSw; go_simp; try with_reducible rfl
                          try simp only [Act.put, List.setIfInBounds_toArray, List.set_cons_zero, List.set_cons_succ]
                          refine wpAnyL_pure (i := 8) (oi := _) (v := ?_) (some 102) rfl rfl (by kernel_rfl) (by kernel_rfl) (by kernel_rfl) (by kernel_rfl) (fun _ _ _ h => h) (fun _ => HS0.out) (Or.inl ⟨by rfl, ?_⟩) ?_
                          rotate_left
                          · intro W hSw; go_simp; try with_reducible rfl
                          try simp only [Act.put, List.setIfInBounds_toArray, List.set_cons_zero, List.set_cons_succ]
                          refine wpAnyL_pure (i := 9) (oi := _) (v := ?_) (some 103) rfl rfl (by kernel_rfl) (by kernel_rfl) (by kernel_rfl) (by kernel_rfl) (fun _ _ _ h => h) (fun _ => HS0.out) (Or.inl ⟨by rfl, ?_⟩) ?_
                          rotate_left
                          · intro W hSw; go_simp; try with_reducible rfl
                          try simp only [Act.put, List.setIfInBounds_toArray, List.set_cons_zero, List.set_cons_succ]
                          refine wpAnyL_pure (i := 10) (oi := _) (v := ?_) (some 104) rfl rfl (by kernel_rfl) (by kernel_rfl) (by kernel_rfl) (by kernel_rfl) (fun _ _ _ h => h) (fun _ => HS0.out) (Or.inl ⟨by rfl, ?_⟩) ?_
                          rotate_left
                          · intro W hSw; go_simp; try with_reducible rfl
                          try simp only [Act.put, List.setIfInBounds_toArray, List.set_cons_zero, List.set_cons_succ]
                          refine wpAnyL_pure (i := 11) (oi := _) (v := ?_) (some 105) rfl rfl (by kernel_rfl) (by kernel_rfl) (by kernel_rfl) (by kernel_rfl) (fun _ _ _ h => h) (fun _ => HS0.out) (Or.inl ⟨by rfl, ?_⟩) ?_
                          rotate_left
                          · intro W hSw; go_simp; try with_reducible rfl
                          try simp only [Act.put, List.setIfInBounds_toArray, List.set_cons_zero, List.set_cons_succ]
                          refine wpAnyL_pure (i := 12) (oi := _) (v := ?_) (some 106) rfl rfl (by kernel_rfl) (by kernel_rfl) (by kernel_rfl) (by kernel_rfl) (fun _ _ _ h => h) (fun _ => HS0.out) (Or.inl ⟨by rfl, ?_⟩) ?_
                          rotate_left
                          · intro W hSw; go_simp; try with_reducible rfl
                          try simp only [Act.put, List.setIfInBounds_toArray, List.set_cons_zero, List.set_cons_succ]
                          refine wpAnyL_pure (i := 13) (oi := _) (v := ?_) (some 107) rfl rfl (by kernel_rfl) (by kernel_rfl) (by kernel_rfl) (by kernel_rfl) (fun _ _ _ h => h) (fun _ => HS0.out) (Or.inl ⟨by rfl, ?_⟩) ?_
                          rotate_left
                          · intro W hSw; go_simp; try with_reducible rfl
                          try simp only [Act.put, List.setIfInBounds_toArray, List.set_cons_zero, List.set_cons_succ]
                          refine wpAnyL_load (i := 14) (oi := _) (v := ?_) (some 108) rfl rfl (by kernel_rfl) (by kernel_rfl) (by kernel_rfl) (by kernel_rfl) (fun _ _ _ h => h) (fun _ => HS0.out) (by kernel_rfl) (by kernel_rfl) (Or.inl ⟨by rfl, ?_⟩) ?_
                          rotate_left
                          · intro W hSw; go_simp; try with_reducible rfl
                          try simp only [Act.put, List.setIfInBounds_toArray, List.set_cons_zero, List.set_cons_succ]
                          refine wpAnyL_pure (i := 15) (oi := _) (v := ?_) (some 109) rfl rfl (by kernel_rfl) (by kernel_rfl) (by kernel_rfl) (by kernel_rfl) (fun _ _ _ h => h) (fun _ => HS0.out) (Or.inl ⟨by rfl, ?_⟩) ?_
                          rotate_left
                          · intro W hSw; go_simp; try with_reducible rfl
                          try simp only [Act.put, List.setIfInBounds_toArray, List.set_cons_zero, List.set_cons_succ]
                          refine wpAnyL_pure (i := 16) (oi := _) (v := ?_) (some 110) rfl rfl (by kernel_rfl) (by kernel_rfl) (by kernel_rfl) (by kernel_rfl) (fun _ _ _ h => h) (fun _ => HS0.out) (Or.inl ⟨by rfl, ?_⟩) ?_
                          rotate_left
                          · intro W hSw; go_simp; try with_reducible rfl
                          try simp only [Act.put, List.setIfInBounds_toArray, List.set_cons_zero, List.set_cons_succ]
                          refine wpAnyL_pure (i := 17) (oi := _) (v := ?_) (some 111) rfl rfl (by kernel_rfl) (by kernel_rfl) (by kernel_rfl) (by kernel_rfl) (fun _ _ _ h => h) (fun _ => HS0.out) (Or.inl ⟨by rfl, ?_⟩) ?_
                          rotate_left
                          · intro W hSw; go_simp; try with_reducible rfl
                          try simp only [Act.put, List.setIfInBounds_toArray, List.set_cons_zero, List.set_cons_succ]
                          refine wpAnyL_load (i := 18) (oi := _) (v := ?_) (some 112) rfl rfl (by kernel_rfl) (by kernel_rfl) (by kernel_rfl) (by kernel_rfl) (fun _ _ _ h => h) (fun _ => HS0.out) (by kernel_rfl) (by kernel_rfl) (Or.inl ⟨by rfl, ?_⟩) ?_
                          rotate_left
                          · intro W hSw; go_simp; try with_reducible rfl
                          try simp only [Act.put, List.setIfInBounds_toArray, List.set_cons_zero, List.set_cons_succ]
                          refine wpAnyL_pure (i := 19) (oi := _) (v := ?_) (some 113) rfl rfl (by kernel_rfl) (by kernel_rfl) (by kernel_rfl) (by kernel_rfl) (fun _ _ _ h => h) (fun _ => HS0.out) (Or.inl ⟨by rfl, ?_⟩) ?_
                          rotate_left
                          · intro W hSw; go_simp; try with_reducible rfl
                          try simp only [Act.put, List.setIfInBounds_toArray, List.set_cons_zero, List.set_cons_succ]
                          refine wpAnyL_pure (i := 20) (oi := _) (v := ?_) (some 114) rfl rfl (by kernel_rfl) (by kernel_rfl) (by kernel_rfl) (by kernel_rfl) (fun _ _ _ h => h) (fun _ => HS0.out) (Or.inl ⟨by rfl, ?_⟩) ?_
                          rotate_left
                          · intro W hSw; go_simp; try with_reducible rfl
                          try simp only [Act.put, List.setIfInBounds_toArray, List.set_cons_zero, List.set_cons_succ]
                          refine wpAnyL_pure (i := 21) (oi := _) (v := ?_) (some 115) rfl rfl (by kernel_rfl) (by kernel_rfl) (by kernel_rfl) (by kernel_rfl) (fun _ _ _ h => h) (fun _ => HS0.out) (Or.inl ⟨by rfl, ?_⟩) ?_
                          rotate_left
                          · intro W hSw; go_simp; try with_reducible rfl
                          try simp only [Act.put, List.setIfInBounds_toArray, List.set_cons_zero, List.set_cons_succ]
                          refine wpAnyL_pure (i := 22) (oi := _) (v := ?_) (some 116) rfl rfl (by kernel_rfl) (by kernel_rfl) (by kernel_rfl) (by kernel_rfl) (fun _ _ _ h => h) (fun _ => HS0.out) (Or.inl ⟨by rfl, ?_⟩) ?_
                          rotate_left
                          · intro W hSw; go_simp; try with_reducible rfl
                          try simp only [Act.put, List.setIfInBounds_toArray, List.set_cons_zero, List.set_cons_succ]
                          refine wpAnyL_pure (i := 23) (oi := _) (v := ?_) (some 117) rfl rfl (by kernel_rfl) (by kernel_rfl) (by kernel_rfl) (by kernel_rfl) (fun _ _ _ h => h) (fun _ => HS0.out) (Or.inl ⟨by rfl, ?_⟩) ?_
                          rotate_left
                          · intro W hSw; go_simp; try with_reducible rfl
                          try simp only [Act.put, List.setIfInBounds_toArray, List.set_cons_zero, List.set_cons_succ]
                          refine wpAnyL_pure (i := 24) (oi := _) (v := ?_) (some 118) rfl rfl (by kernel_rfl) (by kernel_rfl) (by kernel_rfl) (by kernel_rfl) (fun _ _ _ h => h) (fun _ => HS0.out) (Or.inl ⟨by rfl, ?_⟩) ?_
                          rotate_left
                          · intro W hSw; go_simp; try with_reducible rfl
                          try simp only [Act.put, List.setIfInBounds_toArray, List.set_cons_zero, List.set_cons_succ]
                          refine wpAnyL_load (i := 25) (oi := _) (v := ?_) (some 119) rfl rfl (by kernel_rfl) (by kernel_rfl) (by kernel_rfl) (by kernel_rfl) (fun _ _ _ h => h) (fun _ => HS0.out) (by kernel_rfl) (by kernel_rfl) (Or.inl ⟨by rfl, ?_⟩) ?_
                          rotate_left
                          · intro W hSw; go_simp; try with_reducible rfl
                          try simp only [Act.put, List.setIfInBounds_toArray, List.set_cons_zero, List.set_cons_succ]
                          refine wpAnyL_pure (i := 26) (oi := _) (v := ?_) (some 120) rfl rfl (by kernel_rfl) (by kernel_rfl) (by kernel_rfl) (by kernel_rfl) (fun _ _ _ h => h) (fun _ => HS0.out) (Or.inl ⟨by rfl, ?_⟩) ?_
                          rotate_left
                          · intro W hSw; go_simp; try with_reducible rfl
                          try simp only [Act.put, List.setIfInBounds_toArray, List.set_cons_zero, List.set_cons_succ]
                          refine wpAnyL_pure (i := 27) (oi := _) (v := ?_) (some 121) rfl rfl (by kernel_rfl) (by kernel_rfl) (by kernel_rfl) (by kernel_rfl) (fun _ _ _ h => h) (fun _ => HS0.out) (Or.inl ⟨by rfl, ?_⟩) ?_
                          rotate_left
                          · intro W hSw; go_simp; try with_reducible rfl
                          try simp only [Act.put, List.setIfInBounds_toArray, List.set_cons_zero, List.set_cons_succ]
                          refine wpAnyL_pure (i := 28) (oi := _) (v := ?_) (some 122) rfl rfl (by kernel_rfl) (by kernel_rfl) (by kernel_rfl) (by kernel_rfl) (fun _ _ _ h => h) (fun _ => HS0.out) (Or.inl ⟨by rfl, ?_⟩) ?_
                          rotate_left
                          · intro W hSw; go_simp; try with_reducible rfl
                          try simp only [Act.put, List.setIfInBounds_toArray, List.set_cons_zero, List.set_cons_succ]
                          refine wpAnyL_load (i := 29) (oi := _) (v := ?_) (some 123) rfl rfl (by kernel_rfl) (by kernel_rfl) (by kernel_rfl) (by kernel_rfl) (fun _ _ _ h => h) (fun _ => HS0.out) (by kernel_rfl) (by kernel_rfl) (Or.inl ⟨by rfl, ?_⟩) ?_
                          rotate_left
                          · intro W hSw; go_simp; try with_reducible rfl
                          try simp only [Act.put, List.setIfInBounds_toArray, List.set_cons_zero, List.set_cons_succ]
                          refine wpAnyL_pure (i := 30) (oi := _) (v := ?_) (some 124) rfl rfl (by kernel_rfl) (by kernel_rfl) (by kernel_rfl) (by kernel_rfl) (fun _ _ _ h => h) (fun _ => HS0.out) (Or.inl ⟨by rfl, ?_⟩) ?_
                          rotate_left
                          · intro W hSw; go_simp; try with_reducible rfl
                          try simp only [Act.put, List.setIfInBounds_toArray, List.set_cons_zero, List.set_cons_succ]
                          refine wpAnyL_pure (i := 31) (oi := _) (v := ?_) (some 125) rfl rfl (by kernel_rfl) (by kernel_rfl) (by kernel_rfl) (by kernel_rfl) (fun _ _ _ h => h) (fun _ => HS0.out) (Or.inl ⟨by rfl, ?_⟩) ?_
                          rotate_left
                          · intro W hSw; go_simp; try with_reducible rfl
                          try simp only [Act.put, List.setIfInBounds_toArray, List.set_cons_zero, List.set_cons_succ]
                          refine wpAnyL_pure (i := 32) (oi := _) (v := ?_) (some 126) rfl rfl (by kernel_rfl) (by kernel_rfl) (by kernel_rfl) (by kernel_rfl) (fun _ _ _ h => h) (fun _ => HS0.out) (Or.inl ⟨by rfl, ?_⟩) ?_
                          rotate_left
                          · intro W hSw; go_simp; try with_reducible rfl
                          try simp only [Act.put, List.setIfInBounds_toArray, List.set_cons_zero, List.set_cons_succ]
                          refine wpAnyL_pure (i := 33) (oi := _) (v := ?_) (some 127) rfl rfl (by kernel_rfl) (by kernel_rfl) (by kernel_rfl) (by kernel_rfl) (fun _ _ _ h => h) (fun _ => HS0.out) (Or.inl ⟨by rfl, ?_⟩) ?_
                          rotate_left
                          · intro W hSw; go_simp; try with_reducible rfl
                          try simp only [Act.put, List.setIfInBounds_toArray, List.set_cons_zero, List.set_cons_succ]
                          refine wpAnyL_load (i := 34) (oi := _) (v := ?_) (some 128) rfl rfl (by kernel_rfl) (by kernel_rfl) (by kernel_rfl) (by kernel_rfl) (fun _ _ _ h => h) (fun _ => HS0.out) (by kernel_rfl) (by kernel_rfl) (Or.inl ⟨by rfl, ?_⟩) ?_
                          rotate_left
                          · intro W hSw; go_simp; try with_reducible rfl
                          try simp only [Act.put, List.setIfInBounds_toArray, List.set_cons_zero, List.set_cons_succ]
                          refine wpAnyL_pure (i := 35) (oi := _) (v := ?_) (some 129) rfl rfl (by kernel_rfl) (by kernel_rfl) (by kernel_rfl) (by kernel_rfl) (fun _ _ _ h => h) (fun _ => HS0.out) (Or.inl ⟨by rfl, ?_⟩) ?_
                          rotate_left
                          · intro W hSw; go_simp; try with_reducible rfl
                          try simp only [Act.put, List.setIfInBounds_toArray, List.set_cons_zero, List.set_cons_succ]
                          refine wpAnyL_pure (i := 36) (oi := _) (v := ?_) (some 130) rfl rfl (by kernel_rfl) (by kernel_rfl) (by kernel_rfl) (by kernel_rfl) (fun _ _ _ h => h) (fun _ => HS0.out) (Or.inl ⟨by rfl, ?_⟩) ?_
                          rotate_left
                          · intro W hSw; go_simp; try with_reducible rfl
                          try simp only [Act.put, List.setIfInBounds_toArray, List.set_cons_zero, List.set_cons_succ]
                          refine wpAnyL_pure (i := 37) (oi := _) (v := ?_) (some 131) rfl rfl (by kernel_rfl) (by kernel_rfl) (by kernel_rfl) (by kernel_rfl) (fun _ _ _ h => h) (fun _ => HS0.out) (Or.inl ⟨by rfl, ?_⟩) ?_
                          rotate_left
                          · intro W hSw; go_simp; try with_reducible rfl
                          try simp only [Act.put, List.setIfInBounds_toArray, List.set_cons_zero, List.set_cons_succ]
                          refine wpAnyL_load (i := 38) (oi := _) (v := ?_) (some 132) rfl rfl (by kernel_rfl) (by kernel_rfl) (by kernel_rfl) (by kernel_rfl) (fun _ _ _ h => h) (fun _ => HS0.out) (by kernel_rfl) (by kernel_rfl) (Or.inl ⟨by rfl, ?_⟩) ?_
                          rotate_left
                          · intro W hSw; go_simp; try with_reducible rfl
                          try simp only [Act.put, List.setIfInBounds_toArray, List.set_cons_zero, List.set_cons_succ]
                          refine wpAnyL_pure (i := 39) (oi := _) (v := ?_) (some 133) rfl rfl (by kernel_rfl) (by kernel_rfl) (by kernel_rfl) (by kernel_rfl) (fun _ _ _ h => h) (fun _ => HS0.out) (Or.inl ⟨by rfl, ?_⟩) ?_
                          rotate_left
                          · intro W hSw; go_simp; try with_reducible rfl
                          try simp only [Act.put, List.setIfInBounds_toArray, List.set_cons_zero, List.set_cons_succ]
                          refine wpAnyL_load (i := 40) (oi := _) (v := ?_) (some 134) rfl rfl (by kernel_rfl) (by kernel_rfl) (by kernel_rfl) (by kernel_rfl) (fun _ _ _ h => h) (fun _ => HS0.out) (by kernel_rfl) (by kernel_rfl) (Or.inl ⟨by rfl, ?_⟩) ?_
                          rotate_left
                          · intro W hSw; go_simp; try with_reducible rfl
                          try simp only [Act.put, List.setIfInBounds_toArray, List.set_cons_zero, List.set_cons_succ]
                          refine wpAnyL_pure (i := 41) (oi := _) (v := ?_) (some 135) rfl rfl (by kernel_rfl) (by kernel_rfl) (by kernel_rfl) (by kernel_rfl) (fun _ _ _ h => h) (fun _ => HS0.out) (Or.inl ⟨by rfl, ?_⟩) ?_
                          rotate_left
                          · intro W hSw; go_simp; try with_reducible rfl
                          try simp only [Act.put, List.setIfInBounds_toArray, List.set_cons_zero, List.set_cons_succ]
                          refine wpAnyL_pure (i := 42) (oi := _) (v := ?_) (some 136) rfl rfl (by kernel_rfl) (by kernel_rfl) (by kernel_rfl) (by kernel_rfl) (fun _ _ _ h => h) (fun _ => HS0.out) (Or.inl ⟨by rfl, ?_⟩) ?_
                          rotate_left
                          · intro W hSw; go_simp; try with_reducible rfl
                          try simp only [Act.put, List.setIfInBounds_toArray, List.set_cons_zero, List.set_cons_succ]
                          refine wpAnyL_pure (i := 43) (oi := _) (v := ?_) (some 137) rfl rfl (by kernel_rfl) (by kernel_rfl) (by kernel_rfl) (by kernel_rfl) (fun _ _ _ h => h) (fun _ => HS0.out) (Or.inl ⟨by rfl, ?_⟩) ?_
                          rotate_left
                          · intro W hSw; go_simp; try with_reducible rfl
                          try simp only [Act.put, List.setIfInBounds_toArray, List.set_cons_zero, List.set_cons_succ]
                          refine wpAnyL_done (by kernel_rfl) ?_ _
                          go_wp2_with fail
                          go_ret
                          exact ⟨by rw [HV2.out, kidsB_no (i := (m + 1)) hlt (by rw [HKD.out]; exact HKV.out)]; rfl, bthen (bthen HB.out HBW.out) (Below.refl _ _).drew⟩
                        · have h7' : decide (z.fact ≤ (fn : Int)) = false := decide_eq_false h7
                          have HKV := Lib.hid (show kidB g ⟨false, fn, xc, xk⟩ (m + 1) (kn : Int) = true by simp [kidB, HZ.out, hk0, hkg, h7, HZP.out, hkp])
                          clear h7 hkp hk0 hkg
                          go_wp2_with fail
                          have HS0 : Hid (∀ a, wr.drew.cell? a = wr.cell? a) := Lib.hid (fun _ => rfl)
                          refine wp_region_L (S := fun W => ∀ a, W.cell? a = wr.cell? a) (T := []) (by kernel_rfl) HS0.out (fun _ => ?_)
                          refine wpAnyL_pure (i := 0) (oi := _) (v := ?_) (some 94) rfl rfl (by kernel_rfl) (by kernel_rfl) (by kernel_rfl) (by kernel_rfl) (fun _ _ _ h => h) (fun _ => HS0.out) (Or.inl ⟨by rfl, ?_⟩) ?_
                          rotate_left
                          · intro W hSw; go_simp; try with_reducible rfl
                          try simp only [Act.put, List.setIfInBounds_toArray, List.set_cons_zero, List.set_cons_succ]
                          refine wpAnyL_pure (i := 1) (oi := _) (v := ?_) (some 95) rfl rfl (by kernel_rfl) (by kernel_rfl) (by kernel_rfl) (by kernel_rfl) (fun _ _ _ h => h) (fun _ => HS0.out) (Or.inl ⟨by rfl, ?_⟩) ?_
                          rotate_left
                          · intro W hSw; go_simp; try with_reducible rfl
                          try simp only [Act.put, List.setIfInBounds_toArray, List.set_cons_zero, List.set_cons_succ]
                          refine wpAnyL_pure (i := 2) (oi := _) (v := ?_) (some 96) rfl rfl (by kernel_rfl) (by kernel_rfl) (by kernel_rfl) (by kernel_rfl) (fun _ _ _ h => h) (fun _ => HS0.out) (Or.inl ⟨by rfl, ?_⟩) ?_
                          rotate_left
                          · intro W hSw; go_simp; try with_reducible rfl
                          try simp only [Act.put, List.setIfInBounds_toArray, List.set_cons_zero, List.set_cons_succ]
                          refine wpAnyL_pure (i := 3) (oi := _) (v := ?_) (some 97) rfl rfl (by kernel_rfl) (by kernel_rfl) (by kernel_rfl) (by kernel_rfl) (fun _ _ _ h => h) (fun _ => HS0.out) (Or.inl ⟨by rfl, ?_⟩) ?_
                          rotate_left
                          · intro W hSw; go_simp; try with_reducible rfl
                          try simp only [Act.put, List.setIfInBounds_toArray, List.set_cons_zero, List.set_cons_succ]
                          refine wpAnyL_pure (i := 4) (oi := _) (v := ?_) (some 98) rfl rfl (by kernel_rfl) (by kernel_rfl) (by kernel_rfl) (by kernel_rfl) (fun _ _ _ h => h) (fun _ => HS0.out) (Or.inl ⟨by rfl, ?_⟩) ?_
                          rotate_left
                          · intro W hSw; go_simp; try with_reducible rfl
                          try simp only [Act.put, List.setIfInBounds_toArray, List.set_cons_zero, List.set_cons_succ]
                          refine wpAnyL_load (i := 5) (oi := _) (v := ?_) (some 99) rfl rfl (by kernel_rfl) (by kernel_rfl) (by kernel_rfl) (by kernel_rfl) (fun _ _ _ h => h) (fun _ => HS0.out) (by kernel_rfl) (by kernel_rfl) (Or.inl ⟨by rfl, ?_⟩) ?_
                          rotate_left
                          · intro W hSw; go_simp; try with_reducible rfl
                          try simp only [Act.put, List.setIfInBounds_toArray, List.set_cons_zero, List.set_cons_succ]
                          refine wpAnyL_pure (i := 6) (oi := _) (v := ?_) (some 100) rfl rfl (by kernel_rfl) (by kernel_rfl) (by kernel_rfl) (by kernel_rfl) (fun _ _ _ h => h) (fun _ => HS0.out) (Or.inl ⟨by rfl, ?_⟩) ?_
                          rotate_left
                          · intro W hSw; go_simp; try with_reducible rfl
                          try simp only [Act.put, List.setIfInBounds_toArray, List.set_cons_zero, List.set_cons_succ]
                          refine wpAnyL_pure (i := 7) (oi := _) (v := ?_) (some 101) rfl rfl (by kernel_rfl) (by kernel_rfl) (by kernel_rfl) (by kernel_rfl) (fun _ _ _ h => h) (fun _ => HS0.out) (Or.inl ⟨by rfl, ?_⟩) ?_
                          rotate_left
                          · intro W hSw; go_simp; try with_reducible rfl
                          try simp only [Act.put, List.setIfInBounds_toArray, List.set_cons_zero, List.set_cons_succ]
                          refine wpAnyL_pure (i := 8) (oi := _) (v := ?_) (some 102) rfl rfl (by kernel_rfl) (by kernel_rfl) (by kernel_rfl) (by kernel_rfl) (fun _ _ _ h => h) (fun _ => HS0.out) (Or.inl ⟨by rfl, ?_⟩) ?_
                          rotate_left
                          · intro W hSw; go_simp; try with_reducible rfl
                          try simp only [Act.put, List.setIfInBounds_toArray, List.set_cons_zero, List.set_cons_succ]
                          refine wpAnyL_pure (i := 9) (oi := _) (v := ?_) (some 103) rfl rfl (by kernel_rfl) (by kernel_rfl) (by kernel_rfl) (by kernel_rfl) (fun _ _ _ h => h) (fun _ => HS0.out) (Or.inl ⟨by rfl, ?_⟩) ?_
                          rotate_left
                          · intro W hSw; go_simp; try with_reducible rfl
                          try simp only [Act.put, List.setIfInBounds_toArray, List.set_cons_zero, List.set_cons_succ]
                          refine wpAnyL_pure (i := 10) (oi := _) (v := ?_) (some 104) rfl rfl (by kernel_rfl) (by kernel_rfl) (by kernel_rfl) (by kernel_rfl) (fun _ _ _ h => h) (fun _ => HS0.out) (Or.inl ⟨by rfl, ?_⟩) ?_
                          rotate_left
                          · intro W hSw; go_simp; try with_reducible rfl
                          try simp only [Act.put, List.setIfInBounds_toArray, List.set_cons_zero, List.set_cons_succ]
                          refine wpAnyL_pure (i := 11) (oi := _) (v := ?_) (some 105) rfl rfl (by kernel_rfl) (by kernel_rfl) (by kernel_rfl) (by kernel_rfl) (fun _ _ _ h => h) (fun _ => HS0.out) (Or.inl ⟨by rfl, ?_⟩) ?_
                          rotate_left
                          · intro W hSw; go_simp; try with_reducible rfl
                          try simp only [Act.put, List.setIfInBounds_toArray, List.set_cons_zero, List.set_cons_succ]
                          refine wpAnyL_pure (i := 12) (oi := _) (v := ?_) (some 106) rfl rfl (by kernel_rfl) (by kernel_rfl) (by kernel_rfl) (by kernel_rfl) (fun _ _ _ h => h) (fun _ => HS0.out) (Or.inl ⟨by rfl, ?_⟩) ?_
                          rotate_left
                          · intro W hSw; go_simp; try with_reducible rfl
                          try simp only [Act.put, List.setIfInBounds_toArray, List.set_cons_zero, List.set_cons_succ]
                          refine wpAnyL_pure (i := 13) (oi := _) (v := ?_) (some 107) rfl rfl (by kernel_rfl) (by kernel_rfl) (by kernel_rfl) (by kernel_rfl) (fun _ _ _ h => h) (fun _ => HS0.out) (Or.inl ⟨by rfl, ?_⟩) ?_
                          rotate_left
                          · intro W hSw; go_simp; try with_reducible rfl
                          try simp only [Act.put, List.setIfInBounds_toArray, List.set_cons_zero, List.set_cons_succ]
                          refine wpAnyL_load (i := 14) (oi := _) (v := ?_) (some 108) rfl rfl (by kernel_rfl) (by kernel_rfl) (by kernel_rfl) (by kernel_rfl) (fun _ _ _ h => h) (fun _ => HS0.out) (by kernel_rfl) (by kernel_rfl) (Or.inl ⟨by rfl, ?_⟩) ?_
                          rotate_left
                          · intro W hSw; go_simp; try with_reducible rfl
                          try simp only [Act.put, List.setIfInBounds_toArray, List.set_cons_zero, List.set_cons_succ]
                          refine wpAnyL_pure (i := 15) (oi := _) (v := ?_) (some 109) rfl rfl (by kernel_rfl) (by kernel_rfl) (by kernel_rfl) (by kernel_rfl) (fun _ _ _ h => h) (fun _ => HS0.out) (Or.inl ⟨by rfl, ?_⟩) ?_
                          rotate_left
                          · intro W hSw; go_simp; try with_reducible rfl
                          try simp only [Act.put, List.setIfInBounds_toArray, List.set_cons_zero, List.set_cons_succ]
                          refine wpAnyL_pure (i := 16) (oi := _) (v := ?_) (some 110) rfl rfl (by kernel_rfl) (by kernel_rfl) (by kernel_rfl) (by kernel_rfl) (fun _ _ _ h => h) (fun _ => HS0.out) (Or.inl ⟨by rfl, ?_⟩) ?_
                          rotate_left
                          · intro W hSw; go_simp; try with_reducible rfl
                          try simp only [Act.put, List.setIfInBounds_toArray, List.set_cons_zero, List.set_cons_succ]
                          refine wpAnyL_pure (i := 17) (oi := _) (v := ?_) (some 111) rfl rfl (by kernel_rfl) (by kernel_rfl) (by kernel_rfl) (by kernel_rfl) (fun _ _ _ h => h) (fun _ => HS0.out) (Or.inl ⟨by rfl, ?_⟩) ?_
                          rotate_left
                          · intro W hSw; go_simp; try with_reducible rfl
                          try simp only [Act.put, List.setIfInBounds_toArray, List.set_cons_zero, List.set_cons_succ]
                          refine wpAnyL_load (i := 18) (oi := _) (v := ?_) (some 112) rfl rfl (by kernel_rfl) (by kernel_rfl) (by kernel_rfl) (by kernel_rfl) (fun _ _ _ h => h) (fun _ => HS0.out) (by kernel_rfl) (by kernel_rfl) (Or.inl ⟨by rfl, ?_⟩) ?_
                          rotate_left
                          · intro W hSw; go_simp; try with_reducible rfl
                          try simp only [Act.put, List.setIfInBounds_toArray, List.set_cons_zero, List.set_cons_succ]
                          refine wpAnyL_pure (i := 19) (oi := _) (v := ?_) (some 113) rfl rfl (by kernel_rfl) (by kernel_rfl) (by kernel_rfl) (by kernel_rfl) (fun _ _ _ h => h) (fun _ => HS0.out) (Or.inl ⟨by rfl, ?_⟩) ?_
                          rotate_left
                          · intro W hSw; go_simp; try with_reducible rfl
                          try simp only [Act.put, List.setIfInBounds_toArray, List.set_cons_zero, List.set_cons_succ]
                          refine wpAnyL_pure (i := 20) (oi := _) (v := ?_) (some 114) rfl rfl (by kernel_rfl) (by kernel_rfl) (by kernel_rfl) (by kernel_rfl) (fun _ _ _ h => h) (fun _ => HS0.out) (Or.inl ⟨by rfl, ?_⟩) ?_
                          rotate_left
                          · intro W hSw; go_simp; try with_reducible rfl
                          try simp only [Act.put, List.setIfInBounds_toArray, List.set_cons_zero, List.set_cons_succ]
                          refine wpAnyL_pure (i := 21) (oi := _) (v := ?_) (some 115) rfl rfl (by kernel_rfl) (by kernel_rfl) (by kernel_rfl) (by kernel_rfl) (fun _ _ _ h => h) (fun _ => HS0.out) (Or.inl ⟨by rfl, ?_⟩) ?_
                          rotate_left
                          · intro W hSw; go_simp; try with_reducible rfl
                          try simp only [Act.put, List.setIfInBounds_toArray, List.set_cons_zero, List.set_cons_succ]
                          refine wpAnyL_pure (i := 22) (oi := _) (v := ?_) (some 116) rfl rfl (by kernel_rfl) (by kernel_rfl) (by kernel_rfl) (by kernel_rfl) (fun _ _ _ h => h) (fun _ => HS0.out) (Or.inl ⟨by rfl, ?_⟩) ?_
                          rotate_left
                          · intro W hSw; go_simp; try with_reducible rfl
                          try simp only [Act.put, List.setIfInBounds_toArray, List.set_cons_zero, List.set_cons_succ]
                          refine wpAnyL_pure (i := 23) (oi := _) (v := ?_) (some 117) rfl rfl (by kernel_rfl) (by kernel_rfl) (by kernel_rfl) (by kernel_rfl) (fun _ _ _ h => h) (fun _ => HS0.out) (Or.inl ⟨by rfl, ?_⟩) ?_
                          rotate_left
                          · intro W hSw; go_simp; try with_reducible rfl
                          try simp only [Act.put, List.setIfInBounds_toArray, List.set_cons_zero, List.set_cons_succ]
                          refine wpAnyL_pure (i := 24) (oi := _) (v := ?_) (some 118) rfl rfl (by kernel_rfl) (by kernel_rfl) (by kernel_rfl) (by kernel_rfl) (fun _ _ _ h => h) (fun _ => HS0.out) (Or.inl ⟨by rfl, ?_⟩) ?_
                          rotate_left
                          · intro W hSw; go_simp; try with_reducible rfl
                          try simp only [Act.put, List.setIfInBounds_toArray, List.set_cons_zero, List.set_cons_succ]
                          refine wpAnyL_load (i := 25) (oi := _) (v := ?_) (some 119) rfl rfl (by kernel_rfl) (by kernel_rfl) (by kernel_rfl) (by kernel_rfl) (fun _ _ _ h => h) (fun _ => HS0.out) (by kernel_rfl) (by kernel_rfl) (Or.inl ⟨by rfl, ?_⟩) ?_
                          rotate_left
                          · intro W hSw; go_simp; try with_reducible rfl
                          try simp only [Act.put, List.setIfInBounds_toArray, List.set_cons_zero, List.set_cons_succ]
                          refine wpAnyL_pure (i := 26) (oi := _) (v := ?_) (some 120) rfl rfl (by kernel_rfl) (by kernel_rfl) (by kernel_rfl) (by kernel_rfl) (fun _ _ _ h => h) (fun _ => HS0.out) (Or.inl ⟨by rfl, ?_⟩) ?_
                          rotate_left
                          · intro W hSw; go_simp; try with_reducible rfl
                          try simp only [Act.put, List.setIfInBounds_toArray, List.set_cons_zero, List.set_cons_succ]
                          refine wpAnyL_pure (i := 27) (oi := _) (v := ?_) (some 121) rfl rfl (by kernel_rfl) (by kernel_rfl) (by kernel_rfl) (by kernel_rfl) (fun _ _ _ h => h) (fun _ => HS0.out) (Or.inl ⟨by rfl, ?_⟩) ?_
                          rotate_left
                          · intro W hSw; go_simp; try with_reducible rfl
                          try simp only [Act.put, List.setIfInBounds_toArray, List.set_cons_zero, List.set_cons_succ]
                          refine wpAnyL_pure (i := 28) (oi := _) (v := ?_) (some 122) rfl rfl (by kernel_rfl) (by kernel_rfl) (by kernel_rfl) (by kernel_rfl) (fun _ _ _ h => h) (fun _ => HS0.out) (Or.inl ⟨by rfl, ?_⟩) ?_
                          rotate_left
                          · intro W hSw; go_simp; try with_reducible rfl
                          try simp only [Act.put, List.setIfInBounds_toArray, List.set_cons_zero, List.set_cons_succ]
                          refine wpAnyL_load (i := 29) (oi := _) (v := ?_) (some 123) rfl rfl (by kernel_rfl) (by kernel_rfl) (by kernel_rfl) (by kernel_rfl) (fun _ _ _ h => h) (fun _ => HS0.out) (by kernel_rfl) (by kernel_rfl) (Or.inl ⟨by rfl, ?_⟩) ?_
                          rotate_left
                          · intro W hSw; go_simp; try with_reducible rfl
                          try simp only [Act.put, List.setIfInBounds_toArray, List.set_cons_zero, List.set_cons_succ]
                          refine wpAnyL_pure (i := 30) (oi := _) (v := ?_) (some 124) rfl rfl (by kernel_rfl) (by kernel_rfl) (by kernel_rfl) (by kernel_rfl) (fun _ _ _ h => h) (fun _ => HS0.out) (Or.inl ⟨by rfl, ?_⟩) ?_
                          rotate_left
                          · intro W hSw; go_simp; try with_reducible rfl
                          try simp only [Act.put, List.setIfInBounds_toArray, List.set_cons_zero, List.set_cons_succ]
                          refine wpAnyL_pure (i := 31) (oi := _) (v := ?_) (some 125) rfl rfl (by kernel_rfl) (by kernel_rfl) (by kernel_rfl) (by kernel_rfl) (fun _ _ _ h => h) (fun _ => HS0.out) (Or.inl ⟨by rfl, ?_⟩) ?_
                          rotate_left
                          · intro W hSw; go_simp; try with_reducible rfl
                          try simp only [Act.put, List.setIfInBounds_toArray, List.set_cons_zero, List.set_cons_succ]
                          refine wpAnyL_pure (i := 32) (oi := _) (v := ?_) (some 126) rfl rfl (by kernel_rfl) (by kernel_rfl) (by kernel_rfl) (by kernel_rfl) (fun _ _ _ h => h) (fun _ => HS0.out) (Or.inl ⟨by rfl, ?_⟩) ?_
                          rotate_left
                          · intro W hSw; go_simp; try with_reducible rfl
                          try simp only [Act.put, List.setIfInBounds_toArray, List.set_cons_zero, List.set_cons_succ]
                          refine wpAnyL_pure (i := 33) (oi := _) (v := ?_) (some 127) rfl rfl (by kernel_rfl) (by kernel_rfl) (by kernel_rfl) (by kernel_rfl) (fun _ _ _ h => h) (fun _ => HS0.out) (Or.inl ⟨by rfl, ?_⟩) ?_
                          rotate_left
                          · intro W hSw; go_simp; try with_reducible rfl
                          try simp only [Act.put, List.setIfInBounds_toArray, List.set_cons_zero, List.set_cons_succ]
                          refine wpAnyL_load (i := 34) (oi := _) (v := ?_) (some 128) rfl rfl (by kernel_rfl) (by kernel_rfl) (by kernel_rfl) (by kernel_rfl) (fun _ _ _ h => h) (fun _ => HS0.out) (by kernel_rfl) (by kernel_rfl) (Or.inl ⟨by rfl, ?_⟩) ?_
                          rotate_left
                          · intro W hSw; go_simp; try with_reducible rfl
                          try simp only [Act.put, List.setIfInBounds_toArray, List.set_cons_zero, List.set_cons_succ]
                          refine wpAnyL_pure (i := 35) (oi := _) (v := ?_) (some 129) rfl rfl (by kernel_rfl) (by kernel_rfl) (by kernel_rfl) (by kernel_rfl) (fun _ _ _ h => h) (fun _ => HS0.out) (Or.inl ⟨by rfl, ?_⟩) ?_
                          rotate_left
                          · intro W hSw; go_simp; try with_reducible rfl
                          try simp only [Act.put, List.setIfInBounds_toArray, List.set_cons_zero, List.set_cons_succ]
                          refine wpAnyL_pure (i := 36) (oi := _) (v := ?_) (some 130) rfl rfl (by kernel_rfl) (by kernel_rfl) (by kernel_rfl) (by kernel_rfl) (fun _ _ _ h => h) (fun _ => HS0.out) (Or.inl ⟨by rfl, ?_⟩) ?_
                          rotate_left
                          · intro W hSw; go_simp; try with_reducible rfl
                          try simp only [Act.put, List.setIfInBounds_toArray, List.set_cons_zero, List.set_cons_succ]
                          refine wpAnyL_pure (i := 37) (oi := _) (v := ?_) (some 131) rfl rfl (by kernel_rfl) (by kernel_rfl) (by kernel_rfl) (by kernel_rfl) (fun _ _ _ h => h) (fun _ => HS0.out) (Or.inl ⟨by rfl, ?_⟩) ?_
                          rotate_left
                          · intro W hSw; go_simp; try with_reducible rfl
                          try simp only [Act.put, List.setIfInBounds_toArray, List.set_cons_zero, List.set_cons_succ]
                          refine wpAnyL_load (i := 38) (oi := _) (v := ?_) (some 132) rfl rfl (by kernel_rfl) (by kernel_rfl) (by kernel_rfl) (by kernel_rfl) (fun _ _ _ h => h) (fun _ => HS0.out) (by kernel_rfl) (by kernel_rfl) (Or.inl ⟨by rfl, ?_⟩) ?_
                          rotate_left
                          · intro W hSw; go_simp; try with_reducible rfl
                          try simp only [Act.put, List.setIfInBounds_toArray, List.set_cons_zero, List.set_cons_succ]
                          refine wpAnyL_pure (i := 39) (oi := _) (v := ?_) (some 133) rfl rfl (by kernel_rfl) (by kernel_rfl) (by kernel_rfl) (by kernel_rfl) (fun _ _ _ h => h) (fun _ => HS0.out) (Or.inl ⟨by rfl, ?_⟩) ?_
                          rotate_left
                          · intro W hSw; go_simp; try with_reducible rfl
                          try simp only [Act.put, List.setIfInBounds_toArray, List.set_cons_zero, List.set_cons_succ]
                          refine wpAnyL_load (i := 40) (oi := _) (v := ?_) (some 134) rfl rfl (by kernel_rfl) (by kernel_rfl) (by kernel_rfl) (by kernel_rfl) (fun _ _ _ h => h) (fun _ => HS0.out) (by kernel_rfl) (by kernel_rfl) (Or.inl ⟨by rfl, ?_⟩) ?_
                          rotate_left
                          · intro W hSw; go_simp; try with_reducible rfl
                          try simp only [Act.put, List.setIfInBounds_toArray, List.set_cons_zero, List.set_cons_succ]
                          refine wpAnyL_pure (i := 41) (oi := _) (v := ?_) (some 135) rfl rfl (by kernel_rfl) (by kernel_rfl) (by kernel_rfl) (by kernel_rfl) (fun _ _ _ h => h) (fun _ => HS0.out) (Or.inl ⟨by rfl, ?_⟩) ?_
                          rotate_left
                          · intro W hSw; go_simp; try with_reducible rfl
                          try simp only [Act.put, List.setIfInBounds_toArray, List.set_cons_zero, List.set_cons_succ]
                          refine wpAnyL_pure (i := 42) (oi := _) (v := ?_) (some 136) rfl rfl (by kernel_rfl) (by kernel_rfl) (by kernel_rfl) (by kernel_rfl) (fun _ _ _ h => h) (fun _ => HS0.out) (Or.inl ⟨by rfl, ?_⟩) ?_
                          rotate_left
                          · intro W hSw; go_simp; try with_reducible rfl
                          try simp only [Act.put, List.setIfInBounds_toArray, List.set_cons_zero, List.set_cons_succ]
                          refine wpAnyL_pure (i := 43) (oi := _) (v := ?_) (some 137) rfl rfl (by kernel_rfl) (by kernel_rfl) (by kernel_rfl) (by kernel_rfl) (fun _ _ _ h => h) (fun _ => HS0.out) (Or.inl ⟨by rfl, ?_⟩) ?_
                          rotate_left
                          · intro W hSw; go_simp; try with_reducible rfl
                          try simp only [Act.put, List.setIfInBounds_toArray, List.set_cons_zero, List.set_cons_succ]
                          refine wpAnyL_done (by kernel_rfl) ?_ _
                          go_wp2_with fail
                          go_roundw
                          case rel => exact ⟨(m + 1) + 1, by omega, by go_num, Lib.hid (by rw [kidsB_succ, HKI.out, HKD.out, HKV.out]; rfl), Lib.hid (bthen HBW.out (Below.refl _ _).drew)⟩
                          case measure => simp [intOf]; omega
                      · have h6' : decide ((0 : Int) < (z.kids.length : Int)) = false := decide_eq_false (by omega)
                        have h6n : decide (0 < z.kids.length) = false := decide_eq_false h6
                        have h6z : (0 < z.kids.length) = False := eq_false h6
                        have HKV := Lib.hid (show kidB g ⟨false, fn, xc, xk⟩ (m + 1) (kn : Int) = true by simp [kidB, HZ.out, hk0, hkg, h6, HZP.out, hkp])
                        clear h6 hkp hk0 hkg
                        go_wp2_with fail
                        have HS0 : Hid (∀ a, wr.drew.cell? a = wr.cell? a) := Lib.hid (fun _ => rfl)
                        refine wp_region_L (S := fun W => ∀ a, W.cell? a = wr.cell? a) (T := []) (by kernel_rfl) HS0.out (fun _ => ?_)
                        refine wpAnyL_pure (i := 0) (oi := _) (v := ?_) (some 94) rfl rfl (by kernel_rfl) (by kernel_rfl) (by kernel_rfl) (by kernel_rfl) (fun _ _ _ h => h) (fun _ => HS0.out) (Or.inl ⟨by rfl, ?_⟩) ?_
                        rotate_left
                        · intro W hSw; go_simp; try with_reducible rfl
                        try simp only [Act.put, List.setIfInBounds_toArray, List.set_cons_zero, List.set_cons_succ]
                        refine wpAnyL_pure (i := 1) (oi := _) (v := ?_) (some 95) rfl rfl (by kernel_rfl) (by kernel_rfl) (by kernel_rfl) (by kernel_rfl) (fun _ _ _ h => h) (fun _ => HS0.out) (Or.inl ⟨by rfl, ?_⟩) ?_
                        rotate_left
                        · intro W hSw; go_simp; try with_reducible rfl
                        try simp only [Act.put, List.setIfInBounds_toArray, List.set_cons_zero, List.set_cons_succ]
                        refine wpAnyL_pure (i := 2) (oi := _) (v := ?_) (some 96) rfl rfl (by kernel_rfl) (by kernel_rfl) (by kernel_rfl) (by kernel_rfl) (fun _ _ _ h => h) (fun _ => HS0.out) (Or.inl ⟨by rfl, ?_⟩) ?_
                        rotate_left
                        · intro W hSw; go_simp; try with_reducible rfl
                        try simp only [Act.put, List.setIfInBounds_toArray, List.set_cons_zero, List.set_cons_succ]
                        refine wpAnyL_pure (i := 3) (oi := _) (v := ?_) (some 97) rfl rfl (by kernel_rfl) (by kernel_rfl) (by kernel_rfl) (by kernel_rfl) (fun _ _ _ h => h) (fun _ => HS0.out) (Or.inl ⟨by rfl, ?_⟩) ?_
                        rotate_left
                        · intro W hSw; go_simp; try with_reducible rfl
                        try simp only [Act.put, List.setIfInBounds_toArray, List.set_cons_zero, List.set_cons_succ]
                        refine wpAnyL_pure (i := 4) (oi := _) (v := ?_) (some 98) rfl rfl (by kernel_rfl) (by kernel_rfl) (by kernel_rfl) (by kernel_rfl) (fun _ _ _ h => h) (fun _ => HS0.out) (Or.inl ⟨by rfl, ?_⟩) ?_
                        rotate_left
                        · intro W hSw; go_simp; try with_reducible rfl
                        try simp only [Act.put, List.setIfInBounds_toArray, List.set_cons_zero, List.set_cons_succ]
                        refine wpAnyL_load (i := 5) (oi := _) (v := ?_) (some 99) rfl rfl (by kernel_rfl) (by kernel_rfl) (by kernel_rfl) (by kernel_rfl) (fun _ _ _ h => h) (fun _ => HS0.out) (by kernel_rfl) (by kernel_rfl) (Or.inl ⟨by rfl, ?_⟩) ?_
                        rotate_left
                        · intro W hSw; go_simp; try with_reducible rfl
                        try simp only [Act.put, List.setIfInBounds_toArray, List.set_cons_zero, List.set_cons_succ]
                        refine wpAnyL_pure (i := 6) (oi := _) (v := ?_) (some 100) rfl rfl (by kernel_rfl) (by kernel_rfl) (by kernel_rfl) (by kernel_rfl) (fun _ _ _ h => h) (fun _ => HS0.out) (Or.inl ⟨by rfl, ?_⟩) ?_
                        rotate_left
                        · intro W hSw; go_simp; try with_reducible rfl
                        try simp only [Act.put, List.setIfInBounds_toArray, List.set_cons_zero, List.set_cons_succ]
                        refine wpAnyL_pure (i := 7) (oi := _) (v := ?_) (some 101) rfl rfl (by kernel_rfl) (by kernel_rfl) (by kernel_rfl) (by kernel_rfl) (fun _ _ _ h => h) (fun _ => HS0.out) (Or.inl ⟨by rfl, ?_⟩) ?_
                        rotate_left
                        · intro W hSw; go_simp; try with_reducible rfl
                        try simp only [Act.put, List.setIfInBounds_toArray, List.set_cons_zero, List.set_cons_succ]
                        refine wpAnyL_pure (i := 8) (oi := _) (v := ?_) (some 102) rfl rfl (by kernel_rfl) (by kernel_rfl) (by kernel_rfl) (by kernel_rfl) (fun _ _ _ h => h) (fun _ => HS0.out) (Or.inl ⟨by rfl, ?_⟩) ?_
                        rotate_left
                        · intro W hSw; go_simp; try with_reducible rfl
                        try simp only [Act.put, List.setIfInBounds_toArray, List.set_cons_zero, List.set_cons_succ]
                        refine wpAnyL_pure (i := 9) (oi := _) (v := ?_) (some 103) rfl rfl (by kernel_rfl) (by kernel_rfl) (by kernel_rfl) (by kernel_rfl) (fun _ _ _ h => h) (fun _ => HS0.out) (Or.inl ⟨by rfl, ?_⟩) ?_
                        rotate_left
                        · intro W hSw; go_simp; try with_reducible rfl
                        try simp only [Act.put, List.setIfInBounds_toArray, List.set_cons_zero, List.set_cons_succ]
                        refine wpAnyL_pure (i := 10) (oi := _) (v := ?_) (some 104) rfl rfl (by kernel_rfl) (by kernel_rfl) (by kernel_rfl) (by kernel_rfl) (fun _ _ _ h => h) (fun _ => HS0.out) (Or.inl ⟨by rfl, ?_⟩) ?_
                        rotate_left
                        · intro W hSw; go_simp; try with_reducible rfl
                        try simp only [Act.put, List.setIfInBounds_toArray, List.set_cons_zero, List.set_cons_succ]
                        refine wpAnyL_pure (i := 11) (oi := _) (v := ?_) (some 105) rfl rfl (by kernel_rfl) (by kernel_rfl) (by kernel_rfl) (by kernel_rfl) (fun _ _ _ h => h) (fun _ => HS0.out) (Or.inl ⟨by rfl, ?_⟩) ?_
                        rotate_left
                        · intro W hSw; go_simp; try with_reducible rfl
                        try simp only [Act.put, List.setIfInBounds_toArray, List.set_cons_zero, List.set_cons_succ]
                        refine wpAnyL_pure (i := 12) (oi := _) (v := ?_) (some 106) rfl rfl (by kernel_rfl) (by kernel_rfl) (by kernel_rfl) (by kernel_rfl) (fun _ _ _ h => h) (fun _ => HS0.out) (Or.inl ⟨by rfl, ?_⟩) ?_
                        rotate_left
                        · intro W hSw; go_simp; try with_reducible rfl
                        try simp only [Act.put, List.setIfInBounds_toArray, List.set_cons_zero, List.set_cons_succ]
                        refine wpAnyL_pure (i := 13) (oi := _) (v := ?_) (some 107) rfl rfl (by kernel_rfl) (by kernel_rfl) (by kernel_rfl) (by kernel_rfl) (fun _ _ _ h => h) (fun _ => HS0.out) (Or.inl ⟨by rfl, ?_⟩) ?_
                        rotate_left
                        · intro W hSw; go_simp; try with_reducible rfl
                        try simp only [Act.put, List.setIfInBounds_toArray, List.set_cons_zero, List.set_cons_succ]
                        refine wpAnyL_load (i := 14) (oi := _) (v := ?_) (some 108) rfl rfl (by kernel_rfl) (by kernel_rfl) (by kernel_rfl) (by kernel_rfl) (fun _ _ _ h => h) (fun _ => HS0.out) (by kernel_rfl) (by kernel_rfl) (Or.inl ⟨by rfl, ?_⟩) ?_
                        rotate_left
                        · intro W hSw; go_simp; try with_reducible rfl
                        try simp only [Act.put, List.setIfInBounds_toArray, List.set_cons_zero, List.set_cons_succ]
                        refine wpAnyL_pure (i := 15) (oi := _) (v := ?_) (some 109) rfl rfl (by kernel_rfl) (by kernel_rfl) (by kernel_rfl) (by kernel_rfl) (fun _ _ _ h => h) (fun _ => HS0.out) (Or.inl ⟨by rfl, ?_⟩) ?_
                        rotate_left
                        · intro W hSw; go_simp; try with_reducible rfl
                        try simp only [Act.put, List.setIfInBounds_toArray, List.set_cons_zero, List.set_cons_succ]
                        refine wpAnyL_pure (i := 16) (oi := _) (v := ?_) (some 110) rfl rfl (by kernel_rfl) (by kernel_rfl) (by kernel_rfl) (by kernel_rfl) (fun _ _ _ h => h) (fun _ => HS0.out) (Or.inl ⟨by rfl, ?_⟩) ?_
                        rotate_left
                        · intro W hSw; go_simp; try with_reducible rfl
                        try simp only [Act.put, List.setIfInBounds_toArray, List.set_cons_zero, List.set_cons_succ]
                        refine wpAnyL_pure (i := 17) (oi := _) (v := ?_) (some 111) rfl rfl (by kernel_rfl) (by kernel_rfl) (by kernel_rfl) (by kernel_rfl) (fun _ _ _ h => h) (fun _ => HS0.out) (Or.inl ⟨by rfl, ?_⟩) ?_
                        rotate_left
                        · intro W hSw; go_simp; try with_reducible rfl
                        try simp only [Act.put, List.setIfInBounds_toArray, List.set_cons_zero, List.set_cons_succ]
                        refine wpAnyL_load (i := 18) (oi := _) (v := ?_) (some 112) rfl rfl (by kernel_rfl) (by kernel_rfl) (by kernel_rfl) (by kernel_rfl) (fun _ _ _ h => h) (fun _ => HS0.out) (by kernel_rfl) (by kernel_rfl) (Or.inl ⟨by rfl, ?_⟩) ?_
                        rotate_left
                        · intro W hSw; go_simp; try with_reducible rfl
                        try simp only [Act.put, List.setIfInBounds_toArray, List.set_cons_zero, List.set_cons_succ]
                        refine wpAnyL_pure (i := 19) (oi := _) (v := ?_) (some 113) rfl rfl (by kernel_rfl) (by kernel_rfl) (by kernel_rfl) (by kernel_rfl) (fun _ _ _ h => h) (fun _ => HS0.out) (Or.inl ⟨by rfl, ?_⟩) ?_
                        rotate_left
                        · intro W hSw; go_simp; try with_reducible rfl
                        try simp only [Act.put, List.setIfInBounds_toArray, List.set_cons_zero, List.set_cons_succ]
                        refine wpAnyL_pure (i := 20) (oi := _) (v := ?_) (some 114) rfl rfl (by kernel_rfl) (by kernel_rfl) (by kernel_rfl) (by kernel_rfl) (fun _ _ _ h => h) (fun _ => HS0.out) (Or.inl ⟨by rfl, ?_⟩) ?_
                        rotate_left
                        · intro W hSw; go_simp; try with_reducible rfl
                        try simp only [Act.put, List.setIfInBounds_toArray, List.set_cons_zero, List.set_cons_succ]
                        refine wpAnyL_pure (i := 21) (oi := _) (v := ?_) (some 115) rfl rfl (by kernel_rfl) (by kernel_rfl) (by kernel_rfl) (by kernel_rfl) (fun _ _ _ h => h) (fun _ => HS0.out) (Or.inl ⟨by rfl, ?_⟩) ?_
                        rotate_left
                        · intro W hSw; go_simp; try with_reducible rfl
                        try simp only [Act.put, List.setIfInBounds_toArray, List.set_cons_zero, List.set_cons_succ]
                        refine wpAnyL_pure (i := 22) (oi := _) (v := ?_) (some 116) rfl rfl (by kernel_rfl) (by kernel_rfl) (by kernel_rfl) (by kernel_rfl) (fun _ _ _ h => h) (fun _ => HS0.out) (Or.inl ⟨by rfl, ?_⟩) ?_
                        rotate_left
                        · intro W hSw; go_simp; try with_reducible rfl
                        try simp only [Act.put, List.setIfInBounds_toArray, List.set_cons_zero, List.set_cons_succ]
                        refine wpAnyL_pure (i := 23) (oi := _) (v := ?_) (some 117) rfl rfl (by kernel_rfl) (by kernel_rfl) (by kernel_rfl) (by kernel_rfl) (fun _ _ _ h => h) (fun _ => HS0.out) (Or.inl ⟨by rfl, ?_⟩) ?_
                        rotate_left
                        · intro W hSw; go_simp; try with_reducible rfl
                        try simp only [Act.put, List.setIfInBounds_toArray, List.set_cons_zero, List.set_cons_succ]
                        refine wpAnyL_pure (i := 24) (oi := _) (v := ?_) (some 118) rfl rfl (by kernel_rfl) (by kernel_rfl) (by kernel_rfl) (by kernel_rfl) (fun _ _ _ h => h) (fun _ => HS0.out) (Or.inl ⟨by rfl, ?_⟩) ?_
                        rotate_left
                        · intro W hSw; go_simp; try with_reducible rfl
                        try simp only [Act.put, List.setIfInBounds_toArray, List.set_cons_zero, List.set_cons_succ]
                        refine wpAnyL_load (i := 25) (oi := _) (v := ?_) (some 119) rfl rfl (by kernel_rfl) (by kernel_rfl) (by kernel_rfl) (by kernel_rfl) (fun _ _ _ h => h) (fun _ => HS0.out) (by kernel_rfl) (by kernel_rfl) (Or.inl ⟨by rfl, ?_⟩) ?_
                        rotate_left
                        · intro W hSw; go_simp; try with_reducible rfl
                        try simp only [Act.put, List.setIfInBounds_toArray, List.set_cons_zero, List.set_cons_succ]
                        refine wpAnyL_pure (i := 26) (oi := _) (v := ?_) (some 120) rfl rfl (by kernel_rfl) (by kernel_rfl) (by kernel_rfl) (by kernel_rfl) (fun _ _ _ h => h) (fun _ => HS0.out) (Or.inl ⟨by rfl, ?_⟩) ?_
                        rotate_left
                        · intro W hSw; go_simp; try with_reducible rfl
                        try simp only [Act.put, List.setIfInBounds_toArray, List.set_cons_zero, List.set_cons_succ]
                        refine wpAnyL_pure (i := 27) (oi := _) (v := ?_) (some 121) rfl rfl (by kernel_rfl) (by kernel_rfl) (by kernel_rfl) (by kernel_rfl) (fun _ _ _ h => h) (fun _ => HS0.out) (Or.inl ⟨by rfl, ?_⟩) ?_
                        rotate_left
                        · intro W hSw; go_simp; try with_reducible rfl
                        try simp only [Act.put, List.setIfInBounds_toArray, List.set_cons_zero, List.set_cons_succ]
                        refine wpAnyL_pure (i := 28) (oi := _) (v := ?_) (some 122) rfl rfl (by kernel_rfl) (by kernel_rfl) (by kernel_rfl) (by kernel_rfl) (fun _ _ _ h => h) (fun _ => HS0.out) (Or.inl ⟨by rfl, ?_⟩) ?_
                        rotate_left
                        · intro W hSw; go_simp; try with_reducible rfl
                        try simp only [Act.put, List.setIfInBounds_toArray, List.set_cons_zero, List.set_cons_succ]
                        refine wpAnyL_load (i := 29) (oi := _) (v := ?_) (some 123) rfl rfl (by kernel_rfl) (by kernel_rfl) (by kernel_rfl) (by kernel_rfl) (fun _ _ _ h => h) (fun _ => HS0.out) (by kernel_rfl) (by kernel_rfl) (Or.inl ⟨by rfl, ?_⟩) ?_
                        rotate_left
                        · intro W hSw; go_simp; try with_reducible rfl
                        try simp only [Act.put, List.setIfInBounds_toArray, List.set_cons_zero, List.set_cons_succ]
                        refine wpAnyL_pure (i := 30) (oi := _) (v := ?_) (some 124) rfl rfl (by kernel_rfl) (by kernel_rfl) (by kernel_rfl) (by kernel_rfl) (fun _ _ _ h => h) (fun _ => HS0.out) (Or.inl ⟨by rfl, ?_⟩) ?_
                        rotate_left
                        · intro W hSw; go_simp; try with_reducible rfl
                        try simp only [Act.put, List.setIfInBounds_toArray, List.set_cons_zero, List.set_cons_succ]
                        refine wpAnyL_pure (i := 31) (oi := _) (v := ?_) (some 125) rfl rfl (by kernel_rfl) (by kernel_rfl) (by kernel_rfl) (by kernel_rfl) (fun _ _ _ h => h) (fun _ => HS0.out) (Or.inl ⟨by rfl, ?_⟩) ?_
                        rotate_left
                        · intro W hSw; go_simp; try with_reducible rfl
                        try simp only [Act.put, List.setIfInBounds_toArray, List.set_cons_zero, List.set_cons_succ]
                        refine wpAnyL_pure (i := 32) (oi := _) (v := ?_) (some 126) rfl rfl (by kernel_rfl) (by kernel_rfl) (by kernel_rfl) (by kernel_rfl) (fun _ _ _ h => h) (fun _ => HS0.out) (Or.inl ⟨by rfl, ?_⟩) ?_
                        rotate_left
                        · intro W hSw; go_simp; try with_reducible rfl
                        try simp only [Act.put, List.setIfInBounds_toArray, List.set_cons_zero, List.set_cons_succ]
                        refine wpAnyL_pure (i := 33) (oi := _) (v := undef) (some 127) rfl rfl (by kernel_rfl) (by kernel_rfl) (by kernel_rfl) (by kernel_rfl) (fun _ _ _ h => h) (fun _ => HS0.out) (Or.inr ⟨by rfl, rfl⟩) ?_
                        try simp only [Act.put, List.setIfInBounds_toArray, List.set_cons_zero, List.set_cons_succ]
                        refine wpAnyL_pure (i := 34) (oi := _) (v := undef) (some 128) rfl rfl (by kernel_rfl) (by kernel_rfl) (by kernel_rfl) (by kernel_rfl) (fun _ _ _ h => h) (fun _ => HS0.out) (Or.inr ⟨by rfl, rfl⟩) ?_
                        try simp only [Act.put, List.setIfInBounds_toArray, List.set_cons_zero, List.set_cons_succ]
                        refine wpAnyL_pure (i := 35) (oi := _) (v := undef) (some 129) rfl rfl (by kernel_rfl) (by kernel_rfl) (by kernel_rfl) (by kernel_rfl) (fun _ _ _ h => h) (fun _ => HS0.out) (Or.inr ⟨by rfl, rfl⟩) ?_
                        try simp only [Act.put, List.setIfInBounds_toArray, List.set_cons_zero, List.set_cons_succ]
                        refine wpAnyL_pure (i := 36) (oi := _) (v := undef) (some 130) rfl rfl (by kernel_rfl) (by kernel_rfl) (by kernel_rfl) (by kernel_rfl) (fun _ _ _ h => h) (fun _ => HS0.out) (Or.inr ⟨by rfl, rfl⟩) ?_
                        try simp only [Act.put, List.setIfInBounds_toArray, List.set_cons_zero, List.set_cons_succ]
                        refine wpAnyL_pure (i := 37) (oi := _) (v := undef) (some 131) rfl rfl (by kernel_rfl) (by kernel_rfl) (by kernel_rfl) (by kernel_rfl) (fun _ _ _ h => h) (fun _ => HS0.out) (Or.inr ⟨by rfl, rfl⟩) ?_
                        try simp only [Act.put, List.setIfInBounds_toArray, List.set_cons_zero, List.set_cons_succ]
                        refine wpAnyL_pure (i := 38) (oi := _) (v := undef) (some 132) rfl rfl (by kernel_rfl) (by kernel_rfl) (by kernel_rfl) (by kernel_rfl) (fun _ _ _ h => h) (fun _ => HS0.out) (Or.inr ⟨by rfl, rfl⟩) ?_
                        try simp only [Act.put, List.setIfInBounds_toArray, List.set_cons_zero, List.set_cons_succ]
                        refine wpAnyL_pure (i := 39) (oi := _) (v := undef) (some 133) rfl rfl (by kernel_rfl) (by kernel_rfl) (by kernel_rfl) (by kernel_rfl) (fun _ _ _ h => h) (fun _ => HS0.out) (Or.inr ⟨by rfl, rfl⟩) ?_
                        try simp only [Act.put, List.setIfInBounds_toArray, List.set_cons_zero, List.set_cons_succ]
                        refine wpAnyL_pure (i := 40) (oi := _) (v := undef) (some 134) rfl rfl (by kernel_rfl) (by kernel_rfl) (by kernel_rfl) (by kernel_rfl) (fun _ _ _ h => h) (fun _ => HS0.out) (Or.inr ⟨by rfl, rfl⟩) ?_
                        try simp only [Act.put, List.setIfInBounds_toArray, List.set_cons_zero, List.set_cons_succ]
                        refine wpAnyL_pure (i := 41) (oi := _) (v := undef) (some 135) rfl rfl (by kernel_rfl) (by kernel_rfl) (by kernel_rfl) (by kernel_rfl) (fun _ _ _ h => h) (fun _ => HS0.out) (Or.inr ⟨by rfl, rfl⟩) ?_
                        try simp only [Act.put, List.setIfInBounds_toArray, List.set_cons_zero, List.set_cons_succ]
                        refine wpAnyL_pure (i := 42) (oi := _) (v := ?_) (some 136) rfl rfl (by kernel_rfl) (by kernel_rfl) (by kernel_rfl) (by kernel_rfl) (fun _ _ _ h => h) (fun _ => HS0.out) (Or.inl ⟨by rfl, ?_⟩) ?_
                        rotate_left
                        · intro W hSw; go_simp; try with_reducible rfl
                        try simp only [Act.put, List.setIfInBounds_toArray, List.set_cons_zero, List.set_cons_succ]
                        refine wpAnyL_pure (i := 43) (oi := _) (v := ?_) (some 137) rfl rfl (by kernel_rfl) (by kernel_rfl) (by kernel_rfl) (by kernel_rfl) (fun _ _ _ h => h) (fun _ => HS0.out) (Or.inl ⟨by rfl, ?_⟩) ?_
                        rotate_left
                        · intro W hSw; go_simp; try with_reducible rfl
                        try simp only [Act.put, List.setIfInBounds_toArray, List.set_cons_zero, List.set_cons_succ]
                        refine wpAnyL_done (by kernel_rfl) ?_ _
                        go_wp2_with fail
                        go_roundw
                        case rel => exact ⟨(m + 1) + 1, by omega, by go_num, Lib.hid (by rw [kidsB_succ, HKI.out, HKD.out, HKV.out]; rfl), Lib.hid (bthen HBW.out (Below.refl _ _).drew)⟩
                        case measure => simp [intOf]; omega
            · obtain rfl : i = xk.length := by omega
              go_wp2_with fail
              go_ret
              exact ⟨by rw [HV2.out, HKI.out]; rfl, bthen HB.out HBW.out⟩
end Go.Proofs.YtfajbcjcigajfaaGreatDoor
