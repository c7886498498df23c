/- Part of the proof of a law of customhouselaw26: the texts L5 L6. -/
import Derived.Test.YtfajbcjcigajfaaGreatDoorMQ2Q3
import Derived.Test.YtfajbcjcigajfaaGreatDoorMH6
import Derived.Test.YtfajbcjcigajfaaGreatDoorML1L2
import Derived.Test.YtfajbcjcigajfaaGreatDoorMZ1
/- The least case of a valid diagram; And refuses what is not valid. -/
namespace Go.Proofs.YtfajbcjcigajfaaGreatDoor
open Go.RowKit

def falseG : List Nd := [⟨false, 0, [], []⟩]
theorem valid_least {fs : List Fc} {g : List Nd} (hval : validG g fs = true) :
    (leastK fs g).2 = !sameG g falseG ∧ ((leastK fs g).2 = true → fitsF fs (leastK fs g).1 = true ∧ holdsG g (leastK fs g).1 = true) ∧ ((leastK fs g).2 = false → (leastK fs g).1 = []) := by
  obtain ⟨hv, t, hc, e, hl⟩ := valid_tree hval
  have hlk : leastK fs g = leastW (serT (visitT [] t)) (lvlC (serT (visitT [] t)) fs.length 0) 0 (fs.map (·.lo)) := by
    unfold leastK; rw [if_pos hval, e]
  rw [e] at hval
  obtain ⟨hV, _, _⟩ := vg_of hval
  obtain ⟨hp0, hm⟩ := pos_root t
  have ho := (visit_clo t).1
  have hnd : ndAt (serT (visitT [] t)) 0 = ndT (visitT [] t) t := by
    have := nd_pos hm
    rwa [hp0] at this
  by_cases ht : t = .leaf false
  · have e1 : lvlC (serT (visitT [] t)) fs.length 0 = 1 := by unfold lvlC; rw [hnd, ht]; rfl
    have e2 : leastK fs g = ([], false) := by rw [hlk, e1, leastW, hnd, ht]; rfl
    have e3 : sameG g falseG = true := by
      rw [sameG_iff, e, ht, visitT_eq, if_neg (by simp)]
      rfl
    rw [e2, e3]
    exact ⟨rfl, fun h => (by cases h), fun _ => rfl⟩
  · obtain ⟨p, e1, e2, e3, _, e5, _⟩ := least_ser ho hV hc (Int.le_refl _) hm ht (fs.map (·.lo)) (by simp) (start_fit hv) (fun m _ _ => rfl)
    rw [hp0] at e1
    rw [hlk, e1]
    have e6 : sameG g falseG = false := by
      rw [Bool.eq_false_iff]
      intro h
      rw [sameG_iff, e] at h
      rw [h] at hnd
      refine ht ((live_tr hc (visitT [] t)).1 ?_)
      rw [← hnd]; rfl
    rw [e6]
    refine ⟨rfl, fun _ => ⟨fits_of hv e2 e3, ?_⟩, fun h => (by cases h)⟩
    rw [e, holds_ser hc e2]
    exact e5
theorem least_bad {fs : List Fc} {g : List Nd} (h : validG g fs = false) : leastK fs g = ([], false) := by
  unfold leastK; rw [if_neg (by rw [h]; simp)]
theorem ints_up {w w' : World} {v : Value} {l : List Int} {S : Nat → Prop} (h : IntsAt S w v l) (hb : Below w.heap.size w w') : IntsAt AnyB w' v l := h.keep hb.size (Agree.of_below hb) (fun _ _ _ => trivial)
set_option maxRecDepth 100000 in
set_option maxHeartbeats 20000000 in
theorem and_refuse (a b : List Nd) (va vb : Value) (fs : List Fc) (vd : Value) (w : World) (ha : NdsAt AnyB w va a) (hb : NdsAt AnyB w vb b) (hx : FcsAt AnyB w vd fs)
    (hal : a.length ≤ 1000000) (has : ∀ x ∈ a, x.cuts.length ≤ 1000000 ∧ x.kids.length ≤ 1000000) (hbl : b.length ≤ 1000000) (hbs : ∀ x ∈ b, x.cuts.length ≤ 1000000 ∧ x.kids.length ≤ 1000000)
    (ht : Tab w) (hv : (validG a fs && validG b fs) = false) :
    Calls Tryz.prog 24 #[.agg #[va], .agg #[vb], .agg #[vd]] w fun e w' => e = .returned (.tuple #[.agg #[.slice none 0 0], .int .i64 1]) ∧ Below w.heap.size w w' := by
  obtain ⟨AA, cA, rfl, _⟩ := id ha
  obtain ⟨AB, cB, rfl, _⟩ := id hb
  obtain ⟨AD, cD, rfl, _⟩ := id hx
  have HT := Lib.hid (Lib.tabBelow_of_tabIs ht)
  have HL := Lib.hid (And.intro hal hbl)
  have HSA := Lib.hid has
  have HSB := Lib.hid hbs
  have HB0 := Lib.hid (show Below w.heap.size w ((((w.alloc (.cells #[.slice AA a.length cA] 34)).alloc (.cells #[.slice AB b.length cB] 34)).alloc (.cells #[.slice AD fs.length cD] 27)).alloc (.cells #[.slice none 0 0] 34)) from ((((Below.refl _ _).alloc (Nat.le_refl _) _).alloc (by simp only [World.alloc, Array.size_push]; omega) _).alloc (by simp only [World.alloc, Array.size_push]; omega) _).alloc (by simp only [World.alloc, Array.size_push]; omega) _)
  have C1 := Lib.hid (show ((((w.alloc (.cells #[.slice AA a.length cA] 34)).alloc (.cells #[.slice AB b.length cB] 34)).alloc (.cells #[.slice AD fs.length cD] 27)).alloc (.cells #[.slice none 0 0] 34)).heap[w.heap.size]? = some (.cells #[.slice AA a.length cA] 34 (0, 0)) from old_ (old_ (old_ (new_ _ _))))
  have C2 := Lib.hid (show ((((w.alloc (.cells #[.slice AA a.length cA] 34)).alloc (.cells #[.slice AB b.length cB] 34)).alloc (.cells #[.slice AD fs.length cD] 27)).alloc (.cells #[.slice none 0 0] 34)).heap[w.heap.size + 1]? = some (.cells #[.slice AB b.length cB] 34 (0, 0)) from old_ (old_ (alk _ _ (by simp only [World.alloc, Array.size_push]))))
  have C3 := Lib.hid (show ((((w.alloc (.cells #[.slice AA a.length cA] 34)).alloc (.cells #[.slice AB b.length cB] 34)).alloc (.cells #[.slice AD fs.length cD] 27)).alloc (.cells #[.slice none 0 0] 34)).heap[w.heap.size + 1 + 1]? = some (.cells #[.slice AD fs.length cD] 27 (0, 0)) from old_ (alk _ _ (by simp only [World.alloc, Array.size_push])))
  have C4 := Lib.hid (show ((((w.alloc (.cells #[.slice AA a.length cA] 34)).alloc (.cells #[.slice AB b.length cB] 34)).alloc (.cells #[.slice AD fs.length cD] 27)).alloc (.cells #[.slice none 0 0] 34)).heap[w.heap.size + 1 + 1 + 1]? = some (.cells #[.slice none 0 0] 34 (0, 0)) from alk _ _ (by simp only [World.alloc, Array.size_push]))
  have HA := Lib.hid ha
  have HB := Lib.hid hb
  have HX := Lib.hid hx
  clear ha hb hx ht hal hbl has hbs
  go_enter Tryz.func24, Tryz.ntmps24
  go_wp2_with fail
  refine (valid_any AnyB AnyB a _ fs _ _ (nds_up HA.out HB0.out) (fcs_up HX.out HB0.out) HL.out.1 HSA.out (HT.out _ HB0.out)).mono ?_
  rintro e w1 ⟨rfl, hb1⟩
  have HB1 := Lib.hid (bthen HB0.out hb1)
  have D1 := Lib.hid (below_ hb1 C1.out)
  have D2 := Lib.hid (below_ hb1 C2.out)
  have D3 := Lib.hid (below_ hb1 C3.out)
  have D4 := Lib.hid (below_ hb1 C4.out)
  clear hb1 HB0 C1 C2 C3 C4
  obtain ⟨q0, _⟩ := one_ D1.out
  have l0 := blt_ D1.out
  obtain ⟨q1, _⟩ := one_ D2.out
  have l1 := blt_ D2.out
  obtain ⟨q2, _⟩ := one_ D3.out
  have l2 := blt_ D3.out
  obtain ⟨q3, _⟩ := one_ D4.out
  have l3 := blt_ D4.out
  cases hva : validG a fs
  · go_wp2_with fail
    refine bodyPost_ret (v := .tuple #[.agg #[.slice none 0 0], .int .i64 1]) (by simp [results, Tryz.results24, go_sem, q3]) rfl ?_
    exact ⟨rfl, HB1.out.setCell (p := ⟨w.heap.size + 1 + 1 + 1, 0, none⟩) (by simp only; omega) _⟩
  · have hvb : validG b fs = false := by rw [hva] at hv; simpa using hv
    have HVB := Lib.hid hvb
    clear hv hva hvb
    go_wp2_with fail
    refine (valid_any AnyB AnyB b _ fs _ w1 (nds_up HB.out HB1.out) (fcs_up HX.out HB1.out) HL.out.2 HSB.out (HT.out _ HB1.out)).mono ?_
    rw [HVB.out]
    rintro e w2 ⟨rfl, hb2⟩
    have HB2 := Lib.hid (bthen HB1.out hb2)
    have E1 := Lib.hid (below_ hb2 D1.out)
    have E2 := Lib.hid (below_ hb2 D2.out)
    have E3 := Lib.hid (below_ hb2 D3.out)
    have E4 := Lib.hid (below_ hb2 D4.out)
    clear hb2 HB1 D1 D2 D3 D4 q0 q1 q2 q3 l0 l1 l2 l3
    obtain ⟨q0, _⟩ := one_ E1.out
    have l0 := blt_ E1.out
    obtain ⟨q1, _⟩ := one_ E2.out
    have l1 := blt_ E2.out
    obtain ⟨q2, _⟩ := one_ E3.out
    have l2 := blt_ E3.out
    obtain ⟨q3, _⟩ := one_ E4.out
    have l3 := blt_ E4.out
    go_wp2_with fail
    refine bodyPost_ret (v := .tuple #[.agg #[.slice none 0 0], .int .i64 1]) (by simp [results, Tryz.results24, go_sem, q3]) rfl ?_
    exact ⟨rfl, HB2.out.setCell (p := ⟨w.heap.size + 1 + 1 + 1, 0, none⟩) (by simp only; omega) _⟩
end Go.Proofs.YtfajbcjcigajfaaGreatDoor
/- The walk of customhouselaw26.DiagramRefuses. -/
namespace Go.Proofs.YtfajbcjcigajfaaGreatDoor
open Go.RowKit

theorem few_sm {g : List Nd} {n : Nat} (h : fewB g n = true) : g.length ≤ n ∧ ∀ x ∈ g, x.cuts.length ≤ n ∧ x.kids.length ≤ n := by
  unfold fewB at h
  simp only [Bool.and_eq_true, decide_eq_true_eq] at h
  refine ⟨h.1, fun x hx => ?_⟩
  have := List.all_eq_true.1 h.2 x hx
  unfold fewN at this
  simp only [Bool.and_eq_true, decide_eq_true_eq] at this
  exact ⟨this.2, this.1⟩
set_option maxRecDepth 100000 in
set_option maxHeartbeats 20000000 in
theorem refusesLaw_any (a : List Nd) (va : Value) (b : List Nd) (vb : Value) (fs : List Fc) (vd : Value) (w : World) (ha : NdsAt AnyB w va a) (hb : NdsAt AnyB w vb b) (hx : FcsAt AnyB w vd fs) (ht : Tab w) :
    Calls Tryz.prog 7 #[.agg #[va], .agg #[vb], .agg #[vd]] w (BoolE true w) := by
  obtain ⟨AA, cA, rfl, _⟩ := id ha
  obtain ⟨AB, cB, rfl, _⟩ := id hb
  obtain ⟨AD, cD, rfl, _⟩ := id hx
  have HT := Lib.hid (Lib.tabBelow_of_tabIs ht)
  have HB0 := Lib.hid (show Below w.heap.size w (((w.alloc (.cells #[.slice AA a.length cA] 34)).alloc (.cells #[.slice AB b.length cB] 34)).alloc (.cells #[.slice AD fs.length cD] 27)) from (((Below.refl _ _).alloc (Nat.le_refl _) _).alloc (by simp only [World.alloc, Array.size_push]; omega) _).alloc (by simp only [World.alloc, Array.size_push]; omega) _)
  have C1 := Lib.hid (show (((w.alloc (.cells #[.slice AA a.length cA] 34)).alloc (.cells #[.slice AB b.length cB] 34)).alloc (.cells #[.slice AD fs.length cD] 27)).heap[w.heap.size]? = some (.cells #[.slice AA a.length cA] 34 (0, 0)) from old_ (old_ (new_ _ _)))
  have C2 := Lib.hid (show (((w.alloc (.cells #[.slice AA a.length cA] 34)).alloc (.cells #[.slice AB b.length cB] 34)).alloc (.cells #[.slice AD fs.length cD] 27)).heap[w.heap.size + 1]? = some (.cells #[.slice AB b.length cB] 34 (0, 0)) from old_ (alk _ _ (by simp only [World.alloc, Array.size_push])))
  have C3 := Lib.hid (show (((w.alloc (.cells #[.slice AA a.length cA] 34)).alloc (.cells #[.slice AB b.length cB] 34)).alloc (.cells #[.slice AD fs.length cD] 27)).heap[w.heap.size + 1 + 1]? = some (.cells #[.slice AD fs.length cD] 27 (0, 0)) from alk _ _ (by simp only [World.alloc, Array.size_push]))
  have HA := Lib.hid ha
  have HB := Lib.hid hb
  have HX := Lib.hid hx
  clear ha hb hx ht
  go_enter Tryz.func7, Tryz.ntmps7
  go_wp2_with fail
  refine (head_any _ (HT.out _ HB0.out)).mono ?_
  rintro e w1 ⟨rfl, hb1⟩
  have HB1 := Lib.hid (bthen HB0.out hb1)
  have D11 := Lib.hid (below_ hb1 C1.out)
  have D12 := Lib.hid (below_ hb1 C2.out)
  have D13 := Lib.hid (below_ hb1 C3.out)
  clear hb1 HB0 C1 C2 C3
  obtain ⟨q0, _⟩ := one_ D11.out
  have l0 := blt_ D11.out
  obtain ⟨q1, _⟩ := one_ D12.out
  have l1 := blt_ D12.out
  obtain ⟨q2, _⟩ := one_ D13.out
  have l2 := blt_ D13.out
  go_wp2_with fail
  refine (few_any AnyB a _ 40 w1 (nds_keep HA.out HB1.out) (by omega)).mono ?_
  rintro e w2 ⟨rfl, hb2⟩
  have HB2 := Lib.hid (HB1.out.trans (hb2.mono HB1.out.size))
  have D21 := Lib.hid (below_ hb2 D11.out)
  have D22 := Lib.hid (below_ hb2 D12.out)
  have D23 := Lib.hid (below_ hb2 D13.out)
  clear hb2 HB1 D11 D12 D13 q0 q1 q2 l0 l1 l2
  obtain ⟨q0, _⟩ := one_ D21.out
  have l0 := blt_ D21.out
  obtain ⟨q1, _⟩ := one_ D22.out
  have l1 := blt_ D22.out
  obtain ⟨q2, _⟩ := one_ D23.out
  have l2 := blt_ D23.out
  cases hfa : fewB a 40
  ·
    go_wp2_with fail
    go_ret
    exact ⟨rfl, HB2.out⟩
  ·
    have HSA := Lib.hid (few_sm hfa)
    clear hfa
    go_wp2_with fail
    refine (few_any AnyB b _ 40 w2 (nds_keep HB.out HB2.out) (by omega)).mono ?_
    rintro e w3 ⟨rfl, hb3⟩
    have HB3 := Lib.hid (HB2.out.trans (hb3.mono HB2.out.size))
    have D31 := Lib.hid (below_ hb3 D21.out)
    have D32 := Lib.hid (below_ hb3 D22.out)
    have D33 := Lib.hid (below_ hb3 D23.out)
    clear hb3 HB2 D21 D22 D23 q0 q1 q2 l0 l1 l2
    obtain ⟨q0, _⟩ := one_ D31.out
    have l0 := blt_ D31.out
    obtain ⟨q1, _⟩ := one_ D32.out
    have l1 := blt_ D32.out
    obtain ⟨q2, _⟩ := one_ D33.out
    have l2 := blt_ D33.out
    cases hfb : fewB b 40
    ·
      go_wp2_with fail
      go_ret
      exact ⟨rfl, HB3.out⟩
    ·
      have HSB := Lib.hid (few_sm hfb)
      clear hfb
      by_cases h70 : 70 < fs.length
      ·
        have h71 : (70 : Int) < (fs.length : Int) := by omega
        have h72 : decide ((70 : Int) < (fs.length : Int)) = true := decide_eq_true h71
        go_wp2_with fail
        go_ret
        exact ⟨rfl, HB3.out⟩
      ·
        have h71 : ¬ (70 : Int) < (fs.length : Int) := by omega
        have h72 : decide ((70 : Int) < (fs.length : Int)) = false := decide_eq_false h71
        go_wp2_with fail
        clear h70 h71 h72
        refine (least_any AnyB AnyB a _ fs _ w3 (nds_keep HA.out HB3.out) (fcs_keep HX.out HB3.out) (by have := HSA.out.1; omega) (fun x hx => by have := HSA.out.2 x hx; omega) (HT.out _ HB3.out)).mono ?_
        obtain ⟨lp, ls, hlk⟩ : ∃ p s, leastK fs a = (p, s) := ⟨_, _, rfl⟩
        rw [hlk]
        have HLK := Lib.hid hlk
        clear hlk
        rintro e w4 ⟨vp, rfl, hp, hb4⟩
        dsimp only at hp ⊢
        obtain ⟨Ap, cp, rfl⟩ := hp.shape
        have HP := Lib.hid hp
        clear hp
        have HB4 := Lib.hid (HB3.out.trans (hb4.mono HB3.out.size))
        have D41 := Lib.hid (below_ hb4 D31.out)
        have D42 := Lib.hid (below_ hb4 D32.out)
        have D43 := Lib.hid (below_ hb4 D33.out)
        clear hb4 HB3 D31 D32 D33 q0 q1 q2 l0 l1 l2
        obtain ⟨q0, _⟩ := one_ D41.out
        have l0 := blt_ D41.out
        obtain ⟨q1, _⟩ := one_ D42.out
        have l1 := blt_ D42.out
        obtain ⟨q2, _⟩ := one_ D43.out
        have l2 := blt_ D43.out
        have hfl := SliceAt.len HX.out
        unfold N44 at hfl
        go_wp2_with fail
        refine (valid_any AnyB AnyB a _ fs _ w4 (nds_keep HA.out HB4.out) (fcs_keep HX.out HB4.out) (by have := HSA.out.1; omega) (fun x hx => by have := HSA.out.2 x hx; omega) (HT.out _ HB4.out)).mono ?_
        rintro e w5 ⟨rfl, hb5⟩
        have hbP := hb5
        have HB5 := Lib.hid (HB4.out.trans (hb5.mono HB4.out.size))
        have D51 := Lib.hid (below_ hb5 D41.out)
        have D52 := Lib.hid (below_ hb5 D42.out)
        have D53 := Lib.hid (below_ hb5 D43.out)
        clear hb5 HB4 D41 D42 D43 q0 q1 q2 l0 l1 l2
        obtain ⟨q0, _⟩ := one_ D51.out
        have l0 := blt_ D51.out
        obtain ⟨q1, _⟩ := one_ D52.out
        have l1 := blt_ D52.out
        obtain ⟨q2, _⟩ := one_ D53.out
        have l2 := blt_ D53.out
        cases hva : validG a fs
        ·
          have hlb := least_bad (g := a) hva
          rw [HLK.out] at hlb
          obtain ⟨rfl, rfl⟩ := Prod.mk.inj hlb
          clear hlb HP hbP hfl HLK
          have HV := Lib.hid hva
          clear hva
          go_wp2_with fail
          refine (and_refuse a b _ _ fs _ w5 (nds_keep HA.out HB5.out) (nds_keep HB.out HB5.out) (fcs_keep HX.out HB5.out) (by have := HSA.out.1; omega) (fun x hx => by have := HSA.out.2 x hx; omega) (by have := HSB.out.1; omega) (fun x hx => by have := HSB.out.2 x hx; omega) (HT.out _ HB5.out) (by rw [HV.out]; rfl)).mono ?_
          rintro e w6 ⟨rfl, hb6⟩
          have HB6 := Lib.hid (HB5.out.trans (hb6.mono HB5.out.size))
          have D61 := Lib.hid (below_ hb6 D51.out)
          have D62 := Lib.hid (below_ hb6 D52.out)
          have D63 := Lib.hid (below_ hb6 D53.out)
          clear hb6 HB5 D51 D52 D53 q0 q1 q2 l0 l1 l2
          obtain ⟨q0, _⟩ := one_ D61.out
          have l0 := blt_ D61.out
          obtain ⟨q1, _⟩ := one_ D62.out
          have l1 := blt_ D62.out
          obtain ⟨q2, _⟩ := one_ D63.out
          have l2 := blt_ D63.out
          go_upto_region 8 with fail
          have HB7 := Lib.hid (HB6.out.alloc HB6.out.size (.cells #[.slice none 0 0] 34))
          have D71 := Lib.hid (old_ (o := .cells #[.slice none 0 0] 34) D61.out)
          have D72 := Lib.hid (old_ (o := .cells #[.slice none 0 0] 34) D62.out)
          have D73 := Lib.hid (old_ (o := .cells #[.slice none 0 0] 34) D63.out)
          have X1 := Lib.hid (new_ w6 (.cells #[.slice none 0 0] 34))
          obtain ⟨w7, hw7⟩ : ∃ W, W = w6.alloc (.cells #[.slice none 0 0] 34) := ⟨_, rfl⟩
          rw [← hw7] at HB7 D71 D72 D73 X1 ⊢
          clear hw7 HB6 D61 D62 D63 q0 q1 q2 l0 l1 l2
          generalize w6.heap.size = b7 at *
          obtain ⟨q0, _⟩ := one_ D71.out
          have l0 := blt_ D71.out
          obtain ⟨q1, _⟩ := one_ D72.out
          have l1 := blt_ D72.out
          obtain ⟨q2, _⟩ := one_ D73.out
          have l2 := blt_ D73.out
          go_wp2_with fail
          refine (and_refuse b a _ _ fs _ w7 (nds_keep HB.out HB7.out) (nds_keep HA.out HB7.out) (fcs_keep HX.out HB7.out) (by have := HSB.out.1; omega) (fun x hx => by have := HSB.out.2 x hx; omega) (by have := HSA.out.1; omega) (fun x hx => by have := HSA.out.2 x hx; omega) (HT.out _ HB7.out) (by rw [HV.out]; simp)).mono ?_
          rintro e w8 ⟨rfl, hb8⟩
          have HB8 := Lib.hid (HB7.out.trans (hb8.mono HB7.out.size))
          have D81 := Lib.hid (below_ hb8 D71.out)
          have D82 := Lib.hid (below_ hb8 D72.out)
          have D83 := Lib.hid (below_ hb8 D73.out)
          have X1' := Lib.hid (below_ hb8 X1.out)
          clear X1
          have X1 := X1'
          clear X1'
          clear hb8 HB7 D71 D72 D73 q0 q1 q2 l0 l1 l2
          obtain ⟨q0, _⟩ := one_ D81.out
          have l0 := blt_ D81.out
          obtain ⟨q1, _⟩ := one_ D82.out
          have l1 := blt_ D82.out
          obtain ⟨q2, _⟩ := one_ D83.out
          have l2 := blt_ D83.out
          go_upto_region 9 with fail
          have HB9 := Lib.hid (HB8.out.alloc HB8.out.size (.cells #[.slice none 0 0] 34))
          have D91 := Lib.hid (old_ (o := .cells #[.slice none 0 0] 34) D81.out)
          have D92 := Lib.hid (old_ (o := .cells #[.slice none 0 0] 34) D82.out)
          have D93 := Lib.hid (old_ (o := .cells #[.slice none 0 0] 34) D83.out)
          have X2 := Lib.hid (new_ w8 (.cells #[.slice none 0 0] 34))
          have X1' := Lib.hid (old_ (o := .cells #[.slice none 0 0] 34) X1.out)
          clear X1
          have X1 := X1'
          clear X1'
          obtain ⟨w9, hw9⟩ : ∃ W, W = w8.alloc (.cells #[.slice none 0 0] 34) := ⟨_, rfl⟩
          rw [← hw9] at HB9 D91 D92 D93 X2 X1 ⊢
          clear hw9 HB8 D81 D82 D83 q0 q1 q2 l0 l1 l2
          generalize w8.heap.size = b9 at *
          obtain ⟨q0, _⟩ := one_ D91.out
          have l0 := blt_ D91.out
          obtain ⟨q1, _⟩ := one_ D92.out
          have l1 := blt_ D92.out
          obtain ⟨q2, _⟩ := one_ D93.out
          have l2 := blt_ D93.out
          obtain ⟨y1, _⟩ := one_ X1.out
          have m1 := blt_ X1.out
          obtain ⟨y2, _⟩ := one_ X2.out
          have m2 := blt_ X2.out
          go_wp2_with fail
          go_ret
          exact ⟨rfl, HB9.out⟩
        ·
          obtain ⟨h1, h2, h3⟩ := valid_least hva
          rw [HLK.out] at h1 h2 h3
          dsimp only at h1 h2 h3
          subst h1
          clear hva HLK
          have H2 := Lib.hid h2
          have H3 := Lib.hid h3
          clear h2 h3
          have HPI := Lib.hid (fun (hl : lp.length ≤ N44) => show IntsAt AnyB w5 (.slice Ap lp.length cp) lp from ints_keep (show IntsAt AnyB w4 (.slice Ap lp.length cp) lp from HP.out.slice (fun _ _ _ _ => trivial) hl (fun _ _ _ h => h)) hbP)
          clear hbP HP
          have HLF := Lib.hid (leaf_at (new_ w5 (.cells #[.bool false, .int .i64 0, .slice none 0 0, .slice none 0 0] 55)))
          have hbx := box_below w5 (.cells #[.bool false, .int .i64 0, .slice none 0 0, .slice none 0 0] 55)
          go_wp2_with fail
          refine (same_any AnyB AnyB a falseG _ _ _ (nds_keep (nds_keep HA.out HB5.out) hbx) HLF.out).mono ?_
          rintro e w10 ⟨rfl, hc10⟩
          have hb10 := bthen hbx hc10
          clear hc10 hbx HLF
          have HB10 := Lib.hid (HB5.out.trans (hb10.mono HB5.out.size))
          have D101 := Lib.hid (below_ hb10 D51.out)
          have D102 := Lib.hid (below_ hb10 D52.out)
          have D103 := Lib.hid (below_ hb10 D53.out)
          have HPI' := Lib.hid (fun hl => ints_keep (HPI.out hl) hb10)
          clear HPI
          have HPI := HPI'
          clear HPI'
          clear hb10 HB5 D51 D52 D53 q0 q1 q2 l0 l1 l2
          obtain ⟨q0, _⟩ := one_ D101.out
          have l0 := blt_ D101.out
          obtain ⟨q1, _⟩ := one_ D102.out
          have l1 := blt_ D102.out
          obtain ⟨q2, _⟩ := one_ D103.out
          have l2 := blt_ D103.out
          cases hs : sameG a falseG
          ·
            have h4 := H2.out (by rw [hs]; rfl)
            have HF := Lib.hid h4.1
            have HH := Lib.hid h4.2
            have hpl : lp.length = fs.length := (fit_case h4.1).1
            have HPJ := Lib.hid (HPI.out (by unfold N44; omega))
            clear h4 hpl HPI hs H2 H3 hfl
            go_wp2_with fail
            refine (fits_any AnyB AnyB fs lp _ _ w10 (fcs_keep HX.out HB10.out) HPJ.out).mono ?_
            rw [HF.out]
            rintro e w11 ⟨rfl, hb11⟩
            have HB11 := Lib.hid (HB10.out.trans (hb11.mono HB10.out.size))
            have D111 := Lib.hid (below_ hb11 D101.out)
            have D112 := Lib.hid (below_ hb11 D102.out)
            have D113 := Lib.hid (below_ hb11 D103.out)
            have HPJ' := Lib.hid (ints_keep HPJ.out hb11)
            clear HPJ
            have HPJ := HPJ'
            clear HPJ'
            clear hb11 HB10 D101 D102 D103 q0 q1 q2 l0 l1 l2
            obtain ⟨q0, _⟩ := one_ D111.out
            have l0 := blt_ D111.out
            obtain ⟨q1, _⟩ := one_ D112.out
            have l1 := blt_ D112.out
            obtain ⟨q2, _⟩ := one_ D113.out
            have l2 := blt_ D113.out
            go_wp2_with fail
            refine (diagHolds_any AnyB AnyB a lp _ _ w11 (nds_keep HA.out HB11.out) HPJ.out).mono ?_
            rw [HH.out]
            rintro e w12 ⟨rfl, hb12⟩
            have HB12 := Lib.hid (HB11.out.trans (hb12.mono HB11.out.size))
            have D121 := Lib.hid (below_ hb12 D111.out)
            have D122 := Lib.hid (below_ hb12 D112.out)
            have D123 := Lib.hid (below_ hb12 D113.out)
            clear hb12 HB11 D111 D112 D113 q0 q1 q2 l0 l1 l2
            obtain ⟨q0, _⟩ := one_ D121.out
            have l0 := blt_ D121.out
            obtain ⟨q1, _⟩ := one_ D122.out
            have l1 := blt_ D122.out
            obtain ⟨q2, _⟩ := one_ D123.out
            have l2 := blt_ D123.out
            go_wp2_with fail
            go_ret
            exact ⟨rfl, HB12.out⟩
          ·
            go_wp2_with fail
            go_ret
            exact ⟨rfl, HB10.out⟩
end Go.Proofs.YtfajbcjcigajfaaGreatDoor
