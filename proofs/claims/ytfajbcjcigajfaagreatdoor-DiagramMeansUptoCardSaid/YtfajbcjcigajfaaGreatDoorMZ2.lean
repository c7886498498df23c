/- Part of the proof of a law of customhouselaw26: the texts Z2. -/
import Derived.Test.YtfajbcjcigajfaaGreatDoorMP10P11P12
import Derived.Test.YtfajbcjcigajfaaGreatDoorMH6
import Derived.Test.YtfajbcjcigajfaaGreatDoorMZ1
/- The walk of customhouselaw26.DiagramMeans. -/
namespace Go.Proofs.YtfajbcjcigajfaaGreatDoor
open Go.RowKit

set_option maxRecDepth 100000 in
set_option maxHeartbeats 20000000 in
theorem means_any (d : Nat) (f : Fm) (A : Option Addr) (c : Nat) (fs : List Fc) (vd : Value) (cs : List Int) (vc : Value) (w : World) (hf : FmR AnyB w d f (fv f A c)) (hx : FcsAt AnyB w vd fs) (hc : IntsAt AnyB w vc cs) (ht : Tab w) :
    Calls Tryz.prog 3 #[fmV f A c, .agg #[vd], vc] w (BoolE true w) := by
  obtain ⟨AD, cD, rfl, _⟩ := id hx
  obtain ⟨AC, cC, rfl, _⟩ := id hc
  have HT := Lib.hid (Lib.tabBelow_of_tabIs ht)
  have HB0 := Lib.hid (show Below w.heap.size w ((w.alloc (.cells #[.int .i64 f.op, .string f.name, .int .i64 f.cmp, .int .i64 f.n, .slice A f.kids.length c] 24)).alloc (.cells #[.slice AD fs.length cD] 27)) from ((Below.refl _ _).alloc (Nat.le_refl _) _).alloc (by simp) _)
  have C1 := Lib.hid (show ((w.alloc (.cells #[.int .i64 f.op, .string f.name, .int .i64 f.cmp, .int .i64 f.n, .slice A f.kids.length c] 24)).alloc (.cells #[.slice AD fs.length cD] 27)).heap[w.heap.size]? = some (.cells #[.int .i64 f.op, .string f.name, .int .i64 f.cmp, .int .i64 f.n, .slice A f.kids.length c] 24 (0, 0)) from old_ (new_ _ _))
  have C2 := Lib.hid (show ((w.alloc (.cells #[.int .i64 f.op, .string f.name, .int .i64 f.cmp, .int .i64 f.n, .slice A f.kids.length c] 24)).alloc (.cells #[.slice AD fs.length cD] 27)).heap[w.heap.size + 1]? = some (.cells #[.slice AD fs.length cD] 27 (0, 0)) from alk _ _ (by simp))
  have HF := Lib.hid hf
  have HX := Lib.hid hx
  have HC := Lib.hid hc
  clear hf hx hc ht
  go_enter Tryz.func3, Tryz.ntmps3
  go_wp2_with fail
  refine (head_any _ (HT.out _ HB0.out)).mono ?_
  rintro e w1 ⟨rfl, hb1⟩
  have HB1 := Lib.hid (bthen HB0.out hb1)
  have D1 := Lib.hid (below_ hb1 C1.out)
  have D2 := Lib.hid (below_ hb1 C2.out)
  obtain ⟨x0, x1, x2, x3, x4, _⟩ := five_ D1.out
  have lx := blt_ D1.out
  obtain ⟨d0, _⟩ := one_ D2.out
  have ld := blt_ D2.out
  clear hb1 HB0 C1 C2
  go_wp2_with fail
  refine (small_any d AnyB AnyB f A c fs _ w1 (fm_keep HF.out HB1.out) (fcs_keep HX.out HB1.out)).mono ?_
  rintro e w2 ⟨rfl, hb2⟩
  have HB2 := Lib.hid (bthen HB1.out hb2)
  have E1 := Lib.hid (below_ hb2 D1.out)
  have E2 := Lib.hid (below_ hb2 D2.out)
  clear hb2 HB1 D1 D2 x0 x1 x2 x3 x4 lx d0 ld
  obtain ⟨x0, x1, x2, x3, x4, _⟩ := five_ E1.out
  have lx := blt_ E1.out
  obtain ⟨d0, _⟩ := one_ E2.out
  have ld := blt_ E2.out
  cases hsm : smallB f fs
  · go_wp2_with fail
    go_ret
    exact ⟨rfl, HB2.out⟩
  · have hn : nodesF f ≤ 250 := by
      unfold smallB at hsm
      simp only [Bool.and_eq_true, decide_eq_true_eq] at hsm
      exact hsm.1.1
    have HN := Lib.hid hn
    clear hsm hn
    go_wp2_with fail
    refine (build_any AnyB AnyB d f A c fs _ w2 (fm_keep HF.out HB2.out) (by have := HN.out; omega) (fcs_keep HX.out HB2.out) (HT.out _ HB2.out)).mono ?_
    rintro e w3 ⟨vg, rfl, hg3, hb3⟩
    have HG3 := Lib.hid hg3
    obtain ⟨AG, cG, rfl, _⟩ := id hg3
    have HSM := Lib.hid (build_sm fs f)
    have HERR := Lib.hid (build_err (fs := fs) (f := f))
    have HMN := Lib.hid (build_means (fs := fs) (f := f))
    obtain ⟨g, en, hbk⟩ : ∃ g en, buildK fs f = (g, en) := ⟨_, _, rfl⟩
    rw [hbk] at HG3 HSM HERR HMN ⊢
    dsimp only at HG3 HSM HERR HMN ⊢
    clear hbk hg3
    have HB3 := Lib.hid (bthen HB2.out hb3)
    have F1 := Lib.hid (below_ hb3 E1.out)
    have F2 := Lib.hid (below_ hb3 E2.out)
    clear hb3 HB2 E1 E2 x0 x1 x2 x3 x4 lx d0 ld
    have HBW := Lib.hid (HB3.out.alloc HB3.out.size (.cells #[.slice AG g.length cG] 34))
    have G1 := Lib.hid (old_ (o := .cells #[.slice AG g.length cG] 34) F1.out)
    have G2 := Lib.hid (old_ (o := .cells #[.slice AG g.length cG] 34) F2.out)
    have GG := Lib.hid (new_ w3 (.cells #[.slice AG g.length cG] 34))
    have HGW := Lib.hid (nds_keep HG3.out (box_below w3 (.cells #[.slice AG g.length cG] 34)))
    go_upto_region 5 with fail
    obtain ⟨W, hW⟩ : ∃ W, W = w3.alloc (.cells #[.slice AG g.length cG] 34) := ⟨_, rfl⟩
    rw [← hW] at HBW G1 G2 GG HGW ⊢
    clear hW HB3 F1 F2 HG3
    generalize w3.heap.size = bg at *
    obtain ⟨x0, x1, x2, x3, x4, _⟩ := five_ G1.out
    have lx := blt_ G1.out
    obtain ⟨d0, _⟩ := one_ G2.out
    have ld := blt_ G2.out
    obtain ⟨q0, _⟩ := one_ GG.out
    have lq := blt_ GG.out
    by_cases he : en = 0
    · obtain rfl := he
      obtain ⟨hvg, hhol⟩ := HMN.out rfl
      have HVG := Lib.hid hvg
      have HHOL := Lib.hid hhol
      clear HERR HMN hvg hhol
      go_wp2_with fail
      refine (valid_any AnyB AnyB g _ fs _ W HGW.out (fcs_keep HX.out HBW.out) (by have := HSM.out.1; omega) (fun x hx => by have := HSM.out.2 x hx; omega) (HT.out _ HBW.out)).mono ?_
      rw [HVG.out]
      rintro e w5 ⟨rfl, hb5⟩
      have HB5 := Lib.hid (HBW.out.trans (hb5.mono HBW.out.size))
      have K1 := Lib.hid (below_ hb5 G1.out)
      have K2 := Lib.hid (below_ hb5 G2.out)
      have KG := Lib.hid (below_ hb5 GG.out)
      have HG5 := Lib.hid (nds_keep HGW.out hb5)
      clear hb5 x0 x1 x2 x3 x4 lx d0 ld q0 lq G1 G2 GG HGW
      obtain ⟨x0, x1, x2, x3, x4, _⟩ := five_ K1.out
      have lx := blt_ K1.out
      obtain ⟨d0, _⟩ := one_ K2.out
      have ld := blt_ K2.out
      obtain ⟨q0, _⟩ := one_ KG.out
      have lq := blt_ KG.out
      have HFT := Lib.hid (fits_any AnyB AnyB fs cs (.slice AD fs.length cD) (.slice AC cs.length cC))
      go_upto_region 9 with fail
      clear x0 x1 x2 x3 x4 lx d0 ld q0 lq
      have HB0r := Lib.hid (show Below w5.heap.size w5 w5.drew from (Below.refl _ _).drew)
      cases hfit : fitsF fs cs
      ·
        refine wp_region_L (S := fun W9 => Below w5.heap.size w5 W9) (T := []) (by kernel_rfl) HB0r.out (fun _ => ?_)
        refine wpAnyL_pure (i := 0) (oi := _) (v := ?_) (some 50) rfl rfl (by kernel_rfl) (by kernel_rfl) (by kernel_rfl) (by kernel_rfl) (fun _ _ _ h => h) (fun _ => HB0r.out) (Or.inl ⟨by rfl, ?_⟩) ?_
        rotate_left
        · intro W9 hSw; go_simp; try with_reducible rfl
        try simp only [Act.put, List.setIfInBounds_toArray, List.set_cons_zero, List.set_cons_succ]
        refine wpAnyL_pure (i := 1) (oi := _) (v := ?_) (some 51) rfl rfl (by kernel_rfl) (by kernel_rfl) (by kernel_rfl) (by kernel_rfl) (fun _ _ _ h => h) (fun _ => HB0r.out) (Or.inl ⟨by rfl, ?_⟩) ?_
        rotate_left
        · intro W9 hSw; go_simp; try with_reducible rfl
        try simp only [Act.put, List.setIfInBounds_toArray, List.set_cons_zero, List.set_cons_succ]
        refine wpAnyL_load (i := 2) (oi := _) (v := ?_) (some 52) rfl rfl (by kernel_rfl) (by kernel_rfl) (by kernel_rfl) (by kernel_rfl) (fun _ _ _ h => h) (fun _ => HB0r.out) (by kernel_rfl) (by kernel_rfl) (Or.inl ⟨by rfl, ?_⟩) ?_
        rotate_left
        · intro W9 hSw; obtain ⟨x0, x1, x2, x3, x4, _⟩ := five_ (below_ hSw K1.out); have lx := blt_ (below_ hSw K1.out); obtain ⟨d0, _⟩ := one_ (below_ hSw K2.out); have ld := blt_ (below_ hSw K2.out); obtain ⟨q0, _⟩ := one_ (below_ hSw KG.out); have lq := blt_ (below_ hSw KG.out); go_simp; try with_reducible rfl
        try simp only [Act.put, List.setIfInBounds_toArray, List.set_cons_zero, List.set_cons_succ]
        refine wpAnyL_pure (i := 3) (oi := _) (v := ?_) (some 53) rfl rfl (by kernel_rfl) (by kernel_rfl) (by kernel_rfl) (by kernel_rfl) (fun _ _ _ h => h) (fun _ => HB0r.out) (Or.inl ⟨by rfl, ?_⟩) ?_
        rotate_left
        · intro W9 hSw; go_simp; try with_reducible rfl
        try simp only [Act.put, List.setIfInBounds_toArray, List.set_cons_zero, List.set_cons_succ]
        refine wpAnyL_ready (rs := [4]) (by kernel_rfl) (by simp) ?_
        refine (ReadyL.cons rfl (fun K hK => ?_) ReadyL.nil)
        go_simp
        refine (fits_any AnyB AnyB fs cs _ _ _ (fcs_keep (fcs_keep HX.out HB5.out) HB0r.out) (ints_keep (ints_keep HC.out HB5.out) HB0r.out)).mono ?_
        rintro e w1' ⟨rfl, hb1⟩
        have HB1c := Lib.hid (HB0r.out.trans (hb1.mono HB0r.out.size))
        clear hb1
        rw [hfit]
        refine hK.out _ _ (fun _ => HB1c.out) (fun _ => ?_)
        clear hK K
        try simp only [Act.put, List.setIfInBounds_toArray, List.set_cons_zero, List.set_cons_succ]
        refine wpAnyL_pure (i := 5) (oi := _) (v := ?_) (some 55) rfl rfl (by kernel_rfl) (by kernel_rfl) (by kernel_rfl) (by kernel_rfl) (fun _ _ _ h => h) (fun _ => HB1c.out) (Or.inl ⟨by rfl, ?_⟩) ?_
        rotate_left
        · intro W9 hSw; go_simp; try with_reducible rfl
        try simp only [Act.put, List.setIfInBounds_toArray, List.set_cons_zero, List.set_cons_succ]
        refine wpAnyL_pure (i := 6) (oi := _) (v := ?_) (some 56) rfl rfl (by kernel_rfl) (by kernel_rfl) (by kernel_rfl) (by kernel_rfl) (fun _ _ _ h => h) (fun _ => HB1c.out) (Or.inl ⟨by rfl, ?_⟩) ?_
        rotate_left
        · intro W9 hSw; go_simp; try with_reducible rfl
        try simp only [Act.put, List.setIfInBounds_toArray, List.set_cons_zero, List.set_cons_succ]
        refine wpAnyL_pure (i := 7) (oi := _) (v := undef) (some 57) rfl rfl (by kernel_rfl) (by kernel_rfl) (by kernel_rfl) (by kernel_rfl) (fun _ _ _ h => h) (fun _ => HB1c.out) (Or.inr ⟨by rfl, rfl⟩) ?_
        try simp only [Act.put, List.setIfInBounds_toArray, List.set_cons_zero, List.set_cons_succ]
        refine wpAnyL_pure (i := 8) (oi := _) (v := undef) (some 58) rfl rfl (by kernel_rfl) (by kernel_rfl) (by kernel_rfl) (by kernel_rfl) (fun _ _ _ h => h) (fun _ => HB1c.out) (Or.inr ⟨by rfl, rfl⟩) ?_
        try simp only [Act.put, List.setIfInBounds_toArray, List.set_cons_zero, List.set_cons_succ]
        refine wpAnyL_pure (i := 9) (oi := _) (v := undef) (some 59) rfl rfl (by kernel_rfl) (by kernel_rfl) (by kernel_rfl) (by kernel_rfl) (fun _ _ _ h => h) (fun _ => HB1c.out) (Or.inr ⟨by rfl, rfl⟩) ?_
        try simp only [Act.put, List.setIfInBounds_toArray, List.set_cons_zero, List.set_cons_succ]
        refine wpAnyL_pure (i := 10) (oi := _) (v := undef) (some 60) rfl rfl (by kernel_rfl) (by kernel_rfl) (by kernel_rfl) (by kernel_rfl) (fun _ _ _ h => h) (fun _ => HB1c.out) (Or.inr ⟨by rfl, rfl⟩) ?_
        try simp only [Act.put, List.setIfInBounds_toArray, List.set_cons_zero, List.set_cons_succ]
        refine wpAnyL_pure (i := 11) (oi := _) (v := undef) (some 61) rfl rfl (by kernel_rfl) (by kernel_rfl) (by kernel_rfl) (by kernel_rfl) (fun _ _ _ h => h) (fun _ => HB1c.out) (Or.inr ⟨by rfl, rfl⟩) ?_
        try simp only [Act.put, List.setIfInBounds_toArray, List.set_cons_zero, List.set_cons_succ]
        refine wpAnyL_pure (i := 12) (oi := _) (v := undef) (some 62) rfl rfl (by kernel_rfl) (by kernel_rfl) (by kernel_rfl) (by kernel_rfl) (fun _ _ _ h => h) (fun _ => HB1c.out) (Or.inr ⟨by rfl, rfl⟩) ?_
        try simp only [Act.put, List.setIfInBounds_toArray, List.set_cons_zero, List.set_cons_succ]
        refine wpAnyL_pure (i := 13) (oi := _) (v := undef) (some 63) rfl rfl (by kernel_rfl) (by kernel_rfl) (by kernel_rfl) (by kernel_rfl) (fun _ _ _ h => h) (fun _ => HB1c.out) (Or.inr ⟨by rfl, rfl⟩) ?_
        try simp only [Act.put, List.setIfInBounds_toArray, List.set_cons_zero, List.set_cons_succ]
        refine wpAnyL_pure (i := 14) (oi := _) (v := undef) (some 64) rfl rfl (by kernel_rfl) (by kernel_rfl) (by kernel_rfl) (by kernel_rfl) (fun _ _ _ h => h) (fun _ => HB1c.out) (Or.inr ⟨by rfl, rfl⟩) ?_
        try simp only [Act.put, List.setIfInBounds_toArray, List.set_cons_zero, List.set_cons_succ]
        refine wpAnyL_pure (i := 15) (oi := _) (v := ?_) (some 65) rfl rfl (by kernel_rfl) (by kernel_rfl) (by kernel_rfl) (by kernel_rfl) (fun _ _ _ h => h) (fun _ => HB1c.out) (Or.inl ⟨by rfl, ?_⟩) ?_
        rotate_left
        · intro W9 hSw; go_simp; try with_reducible rfl
        try simp only [Act.put, List.setIfInBounds_toArray, List.set_cons_zero, List.set_cons_succ]
        refine wpAnyL_pure (i := 16) (oi := _) (v := ?_) (some 66) rfl rfl (by kernel_rfl) (by kernel_rfl) (by kernel_rfl) (by kernel_rfl) (fun _ _ _ h => h) (fun _ => HB1c.out) (Or.inl ⟨by rfl, ?_⟩) ?_
        rotate_left
        · intro W9 hSw; go_simp; try with_reducible rfl
        try simp only [Act.put, List.setIfInBounds_toArray, List.set_cons_zero, List.set_cons_succ]
        refine wpAnyL_pure (i := 17) (oi := _) (v := ?_) (some 6) rfl rfl (by kernel_rfl) (by kernel_rfl) (by kernel_rfl) (by kernel_rfl) (fun _ _ _ h => h) (fun _ => HB1c.out) (Or.inl ⟨by rfl, ?_⟩) ?_
        rotate_left
        · intro W9 hSw; go_simp; try with_reducible rfl
        try simp only [Act.put, List.setIfInBounds_toArray, List.set_cons_zero, List.set_cons_succ]
        refine wpAnyL_done (by kernel_rfl) ?_ _
        go_wp2_with fail
        go_ret
        exact ⟨rfl, HB5.out.trans (HB1c.out.mono HB5.out.size)⟩
      ·
        refine wp_region_L (S := fun W9 => Below w5.heap.size w5 W9) (T := []) (by kernel_rfl) HB0r.out (fun _ => ?_)
        refine wpAnyL_pure (i := 0) (oi := _) (v := ?_) (some 50) rfl rfl (by kernel_rfl) (by kernel_rfl) (by kernel_rfl) (by kernel_rfl) (fun _ _ _ h => h) (fun _ => HB0r.out) (Or.inl ⟨by rfl, ?_⟩) ?_
        rotate_left
        · intro W9 hSw; go_simp; try with_reducible rfl
        try simp only [Act.put, List.setIfInBounds_toArray, List.set_cons_zero, List.set_cons_succ]
        refine wpAnyL_pure (i := 1) (oi := _) (v := ?_) (some 51) rfl rfl (by kernel_rfl) (by kernel_rfl) (by kernel_rfl) (by kernel_rfl) (fun _ _ _ h => h) (fun _ => HB0r.out) (Or.inl ⟨by rfl, ?_⟩) ?_
        rotate_left
        · intro W9 hSw; go_simp; try with_reducible rfl
        try simp only [Act.put, List.setIfInBounds_toArray, List.set_cons_zero, List.set_cons_succ]
        refine wpAnyL_load (i := 2) (oi := _) (v := ?_) (some 52) rfl rfl (by kernel_rfl) (by kernel_rfl) (by kernel_rfl) (by kernel_rfl) (fun _ _ _ h => h) (fun _ => HB0r.out) (by kernel_rfl) (by kernel_rfl) (Or.inl ⟨by rfl, ?_⟩) ?_
        rotate_left
        · intro W9 hSw; obtain ⟨x0, x1, x2, x3, x4, _⟩ := five_ (below_ hSw K1.out); have lx := blt_ (below_ hSw K1.out); obtain ⟨d0, _⟩ := one_ (below_ hSw K2.out); have ld := blt_ (below_ hSw K2.out); obtain ⟨q0, _⟩ := one_ (below_ hSw KG.out); have lq := blt_ (below_ hSw KG.out); go_simp; try with_reducible rfl
        try simp only [Act.put, List.setIfInBounds_toArray, List.set_cons_zero, List.set_cons_succ]
        refine wpAnyL_pure (i := 3) (oi := _) (v := ?_) (some 53) rfl rfl (by kernel_rfl) (by kernel_rfl) (by kernel_rfl) (by kernel_rfl) (fun _ _ _ h => h) (fun _ => HB0r.out) (Or.inl ⟨by rfl, ?_⟩) ?_
        rotate_left
        · intro W9 hSw; go_simp; try with_reducible rfl
        try simp only [Act.put, List.setIfInBounds_toArray, List.set_cons_zero, List.set_cons_succ]
        refine wpAnyL_ready (rs := [4]) (by kernel_rfl) (by simp) ?_
        refine (ReadyL.cons rfl (fun K hK => ?_) ReadyL.nil)
        go_simp
        refine (fits_any AnyB AnyB fs cs _ _ _ (fcs_keep (fcs_keep HX.out HB5.out) HB0r.out) (ints_keep (ints_keep HC.out HB5.out) HB0r.out)).mono ?_
        rintro e w2' ⟨rfl, hb2⟩
        have HB2c := Lib.hid (HB0r.out.trans (hb2.mono HB0r.out.size))
        clear hb2
        rw [hfit]
        refine hK.out _ _ (fun _ => HB2c.out) (fun _ => ?_)
        clear hK K
        try simp only [Act.put, List.setIfInBounds_toArray, List.set_cons_zero, List.set_cons_succ]
        refine wpAnyL_pure (i := 5) (oi := _) (v := ?_) (some 55) rfl rfl (by kernel_rfl) (by kernel_rfl) (by kernel_rfl) (by kernel_rfl) (fun _ _ _ h => h) (fun _ => HB2c.out) (Or.inl ⟨by rfl, ?_⟩) ?_
        rotate_left
        · intro W9 hSw; go_simp; try with_reducible rfl
        try simp only [Act.put, List.setIfInBounds_toArray, List.set_cons_zero, List.set_cons_succ]
        refine wpAnyL_pure (i := 6) (oi := _) (v := ?_) (some 56) rfl rfl (by kernel_rfl) (by kernel_rfl) (by kernel_rfl) (by kernel_rfl) (fun _ _ _ h => h) (fun _ => HB2c.out) (Or.inl ⟨by rfl, ?_⟩) ?_
        rotate_left
        · intro W9 hSw; go_simp; try with_reducible rfl
        try simp only [Act.put, List.setIfInBounds_toArray, List.set_cons_zero, List.set_cons_succ]
        refine wpAnyL_load (i := 7) (oi := _) (v := ?_) (some 57) rfl rfl (by kernel_rfl) (by kernel_rfl) (by kernel_rfl) (by kernel_rfl) (fun _ _ _ h => h) (fun _ => HB2c.out) (by kernel_rfl) (by kernel_rfl) (Or.inl ⟨by rfl, ?_⟩) ?_
        rotate_left
        · intro W9 hSw; obtain ⟨x0, x1, x2, x3, x4, _⟩ := five_ (below_ hSw K1.out); have lx := blt_ (below_ hSw K1.out); obtain ⟨d0, _⟩ := one_ (below_ hSw K2.out); have ld := blt_ (below_ hSw K2.out); obtain ⟨q0, _⟩ := one_ (below_ hSw KG.out); have lq := blt_ (below_ hSw KG.out); go_simp; try with_reducible rfl
        try simp only [Act.put, List.setIfInBounds_toArray, List.set_cons_zero, List.set_cons_succ]
        refine wpAnyL_pure (i := 8) (oi := _) (v := ?_) (some 58) rfl rfl (by kernel_rfl) (by kernel_rfl) (by kernel_rfl) (by kernel_rfl) (fun _ _ _ h => h) (fun _ => HB2c.out) (Or.inl ⟨by rfl, ?_⟩) ?_
        rotate_left
        · intro W9 hSw; go_simp; try with_reducible rfl
        try simp only [Act.put, List.setIfInBounds_toArray, List.set_cons_zero, List.set_cons_succ]
        refine wpAnyL_load (i := 10) (oi := _) (v := ?_) (some 60) rfl rfl (by kernel_rfl) (by kernel_rfl) (by kernel_rfl) (by kernel_rfl) (fun _ _ _ h => h) (fun _ => HB2c.out) (by kernel_rfl) (by kernel_rfl) (Or.inl ⟨by rfl, ?_⟩) ?_
        rotate_left
        · intro W9 hSw; obtain ⟨x0, x1, x2, x3, x4, _⟩ := five_ (below_ hSw K1.out); have lx := blt_ (below_ hSw K1.out); obtain ⟨d0, _⟩ := one_ (below_ hSw K2.out); have ld := blt_ (below_ hSw K2.out); obtain ⟨q0, _⟩ := one_ (below_ hSw KG.out); have lq := blt_ (below_ hSw KG.out); go_simp; try with_reducible rfl
        try simp only [Act.put, List.setIfInBounds_toArray, List.set_cons_zero, List.set_cons_succ]
        refine wpAnyL_load (i := 11) (oi := _) (v := ?_) (some 61) rfl rfl (by kernel_rfl) (by kernel_rfl) (by kernel_rfl) (by kernel_rfl) (fun _ _ _ h => h) (fun _ => HB2c.out) (by kernel_rfl) (by kernel_rfl) (Or.inl ⟨by rfl, ?_⟩) ?_
        rotate_left
        · intro W9 hSw; obtain ⟨x0, x1, x2, x3, x4, _⟩ := five_ (below_ hSw K1.out); have lx := blt_ (below_ hSw K1.out); obtain ⟨d0, _⟩ := one_ (below_ hSw K2.out); have ld := blt_ (below_ hSw K2.out); obtain ⟨q0, _⟩ := one_ (below_ hSw KG.out); have lq := blt_ (below_ hSw KG.out); go_simp; try with_reducible rfl
        try simp only [Act.put, List.setIfInBounds_toArray, List.set_cons_zero, List.set_cons_succ]
        refine wpAnyL_pure (i := 12) (oi := _) (v := ?_) (some 62) rfl rfl (by kernel_rfl) (by kernel_rfl) (by kernel_rfl) (by kernel_rfl) (fun _ _ _ h => h) (fun _ => HB2c.out) (Or.inl ⟨by rfl, ?_⟩) ?_
        rotate_left
        · intro W9 hSw; go_simp; try with_reducible rfl
        try simp only [Act.put, List.setIfInBounds_toArray, List.set_cons_zero, List.set_cons_succ]
        refine wpAnyL_ready (rs := [9]) (by kernel_rfl) (by simp) ?_
        refine (ReadyL.cons rfl (fun K hK => ?_) ReadyL.nil)
        go_simp
        refine (diagHolds_any AnyB AnyB g cs _ _ _ (nds_keep HG5.out HB2c.out) (ints_keep (ints_keep HC.out HB5.out) HB2c.out)).mono ?_
        rintro e w3' ⟨rfl, hb3⟩
        have HB3c := Lib.hid (HB2c.out.trans (hb3.mono HB2c.out.size))
        clear hb3
        rw [HHOL.out cs hfit]
        refine hK.out _ _ (fun _ => HB3c.out) (fun _ => ?_)
        clear hK K
        try simp only [Act.put, List.setIfInBounds_toArray, List.set_cons_zero, List.set_cons_succ]
        refine wpAnyL_ready (rs := [13]) (by kernel_rfl) (by simp) ?_
        refine (ReadyL.cons rfl (fun K hK => ?_) ReadyL.nil)
        go_simp
        refine (formulaHolds_any AnyB AnyB AnyB d f A c fs _ cs _ _ (fm_keep (fm_keep HF.out HB5.out) HB3c.out) (by have := HN.out; omega) (fcs_keep (fcs_keep HX.out HB5.out) HB3c.out) (ints_keep (ints_keep HC.out HB5.out) HB3c.out)).mono ?_
        rintro e w4' ⟨rfl, hb4⟩
        have HB4c := Lib.hid (HB3c.out.trans (hb4.mono HB3c.out.size))
        clear hb4
        refine hK.out _ _ (fun _ => HB4c.out) (fun _ => ?_)
        clear hK K
        try simp only [Act.put, List.setIfInBounds_toArray, List.set_cons_zero, List.set_cons_succ]
        refine wpAnyL_pure (i := 14) (oi := _) (v := ?_) (some 64) rfl rfl (by kernel_rfl) (by kernel_rfl) (by kernel_rfl) (by kernel_rfl) (fun _ _ _ h => h) (fun _ => HB4c.out) (Or.inl ⟨by rfl, ?_⟩) ?_
        rotate_left
        · intro W9 hSw; go_simp; try with_reducible rfl
        try simp only [Act.put, List.setIfInBounds_toArray, List.set_cons_zero, List.set_cons_succ]
        refine wpAnyL_pure (i := 15) (oi := _) (v := ?_) (some 65) rfl rfl (by kernel_rfl) (by kernel_rfl) (by kernel_rfl) (by kernel_rfl) (fun _ _ _ h => h) (fun _ => HB4c.out) (Or.inl ⟨by rfl, ?_⟩) ?_
        rotate_left
        · intro W9 hSw; go_simp; try with_reducible rfl
        try simp only [Act.put, List.setIfInBounds_toArray, List.set_cons_zero, List.set_cons_succ]
        refine wpAnyL_pure (i := 16) (oi := _) (v := ?_) (some 66) rfl rfl (by kernel_rfl) (by kernel_rfl) (by kernel_rfl) (by kernel_rfl) (fun _ _ _ h => h) (fun _ => HB4c.out) (Or.inl ⟨by rfl, ?_⟩) ?_
        rotate_left
        · intro W9 hSw; go_simp; try with_reducible rfl
        try simp only [Act.put, List.setIfInBounds_toArray, List.set_cons_zero, List.set_cons_succ]
        refine wpAnyL_pure (i := 17) (oi := _) (v := ?_) (some 6) rfl rfl (by kernel_rfl) (by kernel_rfl) (by kernel_rfl) (by kernel_rfl) (fun _ _ _ h => h) (fun _ => HB4c.out) (Or.inl ⟨by rfl, ?_⟩) ?_
        rotate_left
        · intro W9 hSw; go_simp; try with_reducible rfl
        try simp only [Act.put, List.setIfInBounds_toArray, List.set_cons_zero, List.set_cons_succ]
        refine wpAnyL_done (by kernel_rfl) ?_ _
        go_wp2_with fail
        go_ret
        exact ⟨rfl, HB5.out.trans (HB4c.out.mono HB5.out.size)⟩
    · have he' : (en != 0) = true := by simp [he]
      have heq : (en == 0) = false := beq_eq_false_iff_ne.2 he
      obtain ⟨hg0, hwhy⟩ := HERR.out he
      obtain rfl := hg0
      have HWHY := Lib.hid hwhy
      clear HERR HMN hwhy he
      go_wp2_with fail
      go_wp2_with fail
      · go_ret
        exact ⟨rfl, HBW.out⟩
      · have h2 : ¬ en = 2 := by assumption
        refine (validFact_any AnyB fs _ W (fcs_keep HX.out HBW.out)).mono ?_
        rintro e w5 ⟨rfl, hb5⟩
        have HB5 := Lib.hid (HBW.out.trans (hb5.mono HBW.out.size))
        have K1 := Lib.hid (below_ hb5 G1.out)
        have K2 := Lib.hid (below_ hb5 G2.out)
        have KG := Lib.hid (below_ hb5 GG.out)
        clear hb5 x0 x1 x2 x3 x4 lx d0 ld q0 lq G1 G2 GG HGW
        obtain ⟨x0, x1, x2, x3, x4, _⟩ := five_ K1.out
        have lx := blt_ K1.out
        obtain ⟨d0, _⟩ := one_ K2.out
        have ld := blt_ K2.out
        obtain ⟨q0, _⟩ := one_ KG.out
        have lq := blt_ KG.out
        cases hv : validD fs
        · go_wp2_with fail
          go_ret
          exact ⟨rfl, HB5.out⟩
        · have hck : checkF fs f ≠ 0 := by
            rcases HWHY.out with h | h | h
            · exact absurd h h2
            · rw [hv] at h; cases h
            · exact h
          have hc1 : (checkF fs f != 0) = true := by simp [hck]
          have hc2 : (checkF fs f == 0) = false := beq_eq_false_iff_ne.2 hck
          clear hck
          go_wp2_with fail
          refine (check_any AnyB AnyB d f A c fs _ w5 (fm_keep HF.out HB5.out) (by have := HN.out; omega) (fcs_keep HX.out HB5.out)).mono ?_
          rintro e w6 ⟨rfl, hb6⟩
          have HB6 := Lib.hid (HB5.out.trans (hb6.mono HB5.out.size))
          clear hb6
          go_wp2_with fail
          go_ret
          exact ⟨rfl, HB6.out⟩
end Go.Proofs.YtfajbcjcigajfaaGreatDoor
