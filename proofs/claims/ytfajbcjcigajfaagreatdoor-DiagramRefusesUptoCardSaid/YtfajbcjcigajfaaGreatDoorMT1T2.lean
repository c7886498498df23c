/- Part of the proof of a law of customhouselaw26: the texts T1 T2. -/
import Derived.BigRegion
import Derived.Test.YtfajbcjcigajfaaGreatDoorME2E3E4E5
import Derived.Test.YtfajbcjcigajfaaGreatDoorMK2
import Derived.Test.YtfajbcjcigajfaaGreatDoorMP10P11P12
/- The walk of diagram.Least. -/
namespace Go.Proofs.YtfajbcjcigajfaaGreatDoor
open Go.RowKit

/-- The place of the first kid that is not the false leaf. -/
def liveI (g : List Nd) (x : Nd) : Int := idxI (fun k => liveN (ndAt g k)) x.kids
/-- The least values from a node on. -/
def leastW (g : List Nd) : Nat → Int → List Int → List Int × Bool
  | 0, _, _ => ([], false)
  | n + 1, k, c =>
    if (ndAt g k).kids.length = 0 then (if (ndAt g k).leaf = true then (c, true) else ([], false))
    else leastW g n ((ndAt g k).kids.getD (liveI g (ndAt g k)).toNat 0) (if 0 < liveI g (ndAt g k) then c.set (ndAt g k).fact.toNat ((ndAt g k).cuts.getD (liveI g (ndAt g k) - 1).toNat 0) else c)
/-- How many levels a node needs, reckoned. -/
def lvlC (g : List Nd) (n : Nat) (k : Int) : Nat := if (ndAt g k).kids.length = 0 then 1 else n + 1 - (ndAt g k).fact.toNat
def leastK (fs : List Fc) (g : List Nd) : List Int × Bool := if validG g fs = true then leastW g (lvlC g fs.length 0) 0 (fs.map (·.lo)) else ([], false)
/-- What a valid diagram's nodes are. -/
structure VG (g : List Nd) (fs : List Fc) : Prop where
  pos : InR g 0
  prop : ∀ k, InR g k → properN g fs (ndAt g k) = true
  news : ∀ i j, InR g i → InR g j → ndAt g i = ndAt g j → i = j
theorem vg_of {g : List Nd} {fs : List Fc} (h : validG g fs = true) : VG g fs ∧ validD fs = true ∧ g.length ≤ 4000 := by
  unfold validG at h
  simp only [Bool.and_eq_true, Bool.not_eq_true', decide_eq_false_iff_not] at h
  obtain ⟨⟨⟨⟨⟨hv, h0⟩, h4⟩, hpr⟩, hnw⟩, hsm⟩ := h
  refine ⟨⟨⟨Int.le_refl _, by omega⟩, fun k hk => ?_, news_at hnw⟩, hv, by omega⟩
  cases hc : properN g fs (ndAt g k) with
  | true => rfl
  | false =>
    rw [Bool.eq_false_iff] at hpr
    exact absurd (List.any_eq_true.2 ⟨_, ndAt_mem hk, by rw [hc]; rfl⟩) hpr
theorem VG.node {g : List Nd} {fs : List Fc} (h : VG g fs) {k : Int} (hk : InR g k) (hne : (ndAt g k).kids ≠ []) : PropN g fs (ndAt g k) := proper_spec (h.prop k hk) hne
theorem dead_node {g : List Nd} {fs : List Fc} (h : VG g fs) {k : Int} (hk : InR g k) (hl : liveN (ndAt g k) = false) : ndAt g k = ⟨false, 0, [], []⟩ := by
  unfold liveN at hl
  simp only [Bool.or_eq_false_iff, decide_eq_false_iff_not] at hl
  have hkk : (ndAt g k).kids = [] := List.eq_nil_of_length_eq_zero (by omega)
  obtain ⟨a, b⟩ := proper_leaf (h.prop k hk) hkk
  revert a b hkk hl
  generalize ndAt g k = x
  intro hl hkk a b
  obtain ⟨p, q, r, s⟩ := x
  simp only at *
  rw [hl.2, a, b, hkk]
theorem live_some {g : List Nd} {fs : List Fc} (h : VG g fs) {k : Int} (hk : InR g k) (hne : (ndAt g k).kids ≠ []) : ∃ i : Nat, liveI g (ndAt g k) = i ∧ i < (ndAt g k).kids.length := by
  refine idxI_lt ?_
  intro hlt
  have hP := h.node hk hne
  have hcl : 0 < (ndAt g k).cuts.length := List.length_pos_iff.2 hP.cuts
  have hlen := hP.len
  have hno : ∀ c ∈ (ndAt g k).kids, liveN (ndAt g c) = false := by
    intro c hc
    cases hl : liveN (ndAt g c) with
    | false => rfl
    | true =>
      exfalso
      unfold idxI at hlt
      cases hf : (ndAt g k).kids.findIdx? (fun k => liveN (ndAt g k)) with
      | none =>
        have := List.findIdx?_eq_none_iff.1 hf c hc
        rw [hl] at this; cases this
      | some q => rw [hf] at hlt; simp at hlt; omega
  have h0 : 0 + 1 < (ndAt g k).kids.length := by omega
  refine adj_at hP.adj 0 h0 (h.news _ _ (hP.rng _ (List.getElem_mem _)) (hP.rng _ (List.getElem_mem _)) ?_)
  rw [dead_node h (hP.rng _ (List.getElem_mem _)) (hno _ (List.getElem_mem _)), dead_node h (hP.rng _ (List.getElem_mem _)) (hno _ (List.getElem_mem _))]
theorem lvlC_kid {g : List Nd} {fs : List Fc} {k c : Int} (h : PropN g fs (ndAt g k)) (hk : (ndAt g k).kids ≠ []) (hc : c ∈ (ndAt g k).kids) : lvlC g fs.length c + 1 ≤ lvlC g fs.length k := by
  unfold lvlC
  have h0 := h.f0
  have h1 := h.f1
  have hkl : ¬ (ndAt g k).kids.length = 0 := by simpa using hk
  rw [if_neg hkl]
  split
  · omega
  · rename_i hne
    have := h.up c hc (by simpa using hne)
    omega
theorem leastW_more {g : List Nd} {fs : List Fc} (h : VG g fs) : ∀ (m n : Nat) (k : Int) (c : List Int), InR g k → lvlC g fs.length k ≤ m → lvlC g fs.length k ≤ n → leastW g m k c = leastW g n k c
  | 0, n, k, c, hk, h1, _ => by
    exfalso
    unfold lvlC at h1
    split at h1
    · omega
    · rename_i hne
      have := (h.node hk (by simpa using hne)).f1
      omega
  | m + 1, 0, k, c, hk, _, h2 => by
    exfalso
    unfold lvlC at h2
    split at h2
    · omega
    · rename_i hne
      have := (h.node hk (by simpa using hne)).f1
      omega
  | m + 1, n + 1, k, c, hk, h1, h2 => by
    rw [leastW, leastW]
    by_cases h0 : (ndAt g k).kids.length = 0
    · rw [if_pos h0, if_pos h0]
    · rw [if_neg h0, if_neg h0]
      have hne : (ndAt g k).kids ≠ [] := by simpa using h0
      have hP := h.node hk hne
      obtain ⟨i, hi, hil⟩ := live_some h hk hne
      have hm : (ndAt g k).kids.getD (liveI g (ndAt g k)).toNat 0 ∈ (ndAt g k).kids := by
        rw [hi, Int.toNat_natCast, List.getD_eq_getElem?_getD, List.getElem?_eq_getElem hil]
        exact List.getElem_mem hil
      have := lvlC_kid hP hne hm
      exact leastW_more h m n _ _ (hP.rng _ hm) (by omega) (by omega)
theorem leastW_step {g : List Nd} {fs : List Fc} (h : VG g fs) {k : Int} (c : List Int) (hk : InR g k) (hne : (ndAt g k).kids ≠ []) {i : Nat} (hi : liveI g (ndAt g k) = i) (hil : i < (ndAt g k).kids.length) :
    leastW g (lvlC g fs.length k) k c = leastW g (lvlC g fs.length (ndAt g k).kids[i]) (ndAt g k).kids[i] (if 0 < i then c.set (ndAt g k).fact.toNat ((ndAt g k).cuts.getD (i - 1) 0) else c) := by
  have hP := h.node hk hne
  have hm : (ndAt g k).kids[i] ∈ (ndAt g k).kids := List.getElem_mem hil
  have h1 := lvlC_kid hP hne hm
  obtain ⟨n, hn⟩ : ∃ n, lvlC g fs.length k = n + 1 := ⟨lvlC g fs.length k - 1, by omega⟩
  rw [hn, leastW, if_neg (by simpa using hne), hi, Int.toNat_natCast, List.getD_eq_getElem?_getD, List.getElem?_eq_getElem hil]
  have e1 : ((i : Int) - 1).toNat = i - 1 := by omega
  have e2 : ((0 : Int) < (i : Int)) ↔ 0 < i := by omega
  simp only [e1, e2]
  show leastW g n (ndAt g k).kids[i] _ = _
  exact leastW_more h _ _ _ _ (hP.rng _ hm) (by omega) (Nat.le_refl _)
theorem leastW_len (g : List Nd) : ∀ (n : Nat) (k : Int) (c : List Int), (leastW g n k c).2 = true → (leastW g n k c).1.length = c.length
  | 0, _, _, h => by cases h
  | n + 1, k, c, h => by
    rw [leastW] at h ⊢
    split
    · rename_i h0
      rw [if_pos h0] at h
      split
      · rfl
      · rename_i h1; rw [if_neg h1] at h; cases h
    · rename_i h0
      rw [if_neg h0] at h
      rw [leastW_len g n _ _ h]
      split <;> simp
end Go.Proofs.YtfajbcjcigajfaaGreatDoor
/- The walk of diagram.Least. -/
namespace Go.Proofs.YtfajbcjcigajfaaGreatDoor
open Go.RowKit

theorem nd_at {g : List Nd} {k : Nat} (hk : k < g.length) : ndAt g (k : Int) = g[k] := by
  unfold ndAt
  rw [Int.toNat_natCast, List.getD_eq_getElem?_getD, List.getElem?_eq_getElem hk]; rfl
theorem own_mono {α : Type} {w : World} {B B' : Nat} {e : TypeId} {sz : Nat} {R : α → List Value → Prop} {v : Value} {xs : List α} (h : OwnAt w B e sz R v xs) (hb : B' ≤ B) : OwnAt w B' e sz R v xs := by
  obtain ⟨cells, ⟨h1, h2⟩, hr⟩ := h
  refine ⟨cells, ⟨h1, ?_⟩, hr⟩
  rcases h2 with h2 | ⟨g, cap, cur, e1, h3, rest⟩
  · exact .inl h2
  · exact .inr ⟨g, cap, cur, e1, by omega, rest⟩
theorem own_below2 {α : Type} {w w' : World} {B : Nat} {e : TypeId} {sz : Nat} {R : α → List Value → Prop} {v : Value} {xs : List α} (h : OwnAt w B e sz R v xs) (hb : Below w.heap.size w w') : OwnAt w' B e sz R v xs :=
  h.keep (fun k _ hk => hb.block k hk) (fun _ _ _ h => h)
set_option maxRecDepth 100000 in
set_option maxHeartbeats 8000000 in
theorem least_any (S SF : Nat → Prop) (g : List Nd) (v : Value) (fs : List Fc) (vd : Value) (w : World) (hg : NdsAt S w v g) (hf : FcsAt SF w vd fs) (hgl : g.length ≤ 1000000) (hsz : ∀ x ∈ g, x.cuts.length ≤ 1000000 ∧ x.kids.length ≤ 1000000) (ht : Tab w) :
    Calls Tryz.prog 20 #[.agg #[v], .agg #[vd]] w fun e w' => ∃ v', e = .returned (.tuple #[v', .bool (leastK fs g).2]) ∧ OwnAt w' w.heap.size 3 1 IntR v' (leastK fs g).1 ∧ Below w.heap.size w w' := by
  obtain ⟨AG, cG, rfl, _⟩ := id hg
  obtain ⟨AD, cD, rfl, _⟩ := id hf
  have HT := Lib.hid (Lib.tabBelow_of_tabIs ht)
  have HSZ := Lib.hid hsz
  have hb0 : Below w.heap.size w ((w.alloc (.cells #[.slice AG g.length cG] 34)).alloc (.cells #[.slice AD fs.length cD] 27)) := ((Below.refl _ _).alloc (Nat.le_refl _) _).alloc (by simp) _
  have b1 : ((w.alloc (.cells #[.slice AG g.length cG] 34)).alloc (.cells #[.slice AD fs.length cD] 27)).heap[w.heap.size]? = some (.cells #[.slice AG g.length cG] 34 (0, 0)) := old_ (new_ _ _)
  have b2 : ((w.alloc (.cells #[.slice AG g.length cG] 34)).alloc (.cells #[.slice AD fs.length cD] 27)).heap[w.heap.size + 1]? = some (.cells #[.slice AD fs.length cD] 27 (0, 0)) := alk _ _ (by simp)
  have HB0 := Lib.hid hb0
  have HB1 := Lib.hid b1
  have HB2 := Lib.hid b2
  have HG := Lib.hid hg
  have HF := Lib.hid hf
  clear hg hf ht hsz hb0 b1 b2
  go_enter Tryz.func20, Tryz.ntmps20
  go_wp2_with fail
  refine (valid_any S SF g _ fs _ _ (HG.out.keep HB0.out.size (Agree.of_below HB0.out) (fun _ _ h => h)) (HF.out.keep HB0.out.size (Agree.of_below HB0.out) (fun _ _ h => h)) hgl HSZ.out (HT.out _ HB0.out)).mono ?_
  rintro e w1 ⟨rfl, hb1⟩
  have HBA := Lib.hid (bthen HB0.out hb1)
  have HC1 := Lib.hid (below_ hb1 HB1.out)
  have HC2 := Lib.hid (below_ hb1 HB2.out)
  obtain ⟨d0, _⟩ := one_ HC2.out
  have ld := blt_ HC2.out
  clear hb1 HB0 HB1 HB2
  cases hv : validG g fs
  · have HV := Lib.hid (show leastK fs g = ([], false) by simp [leastK, hv])
    clear hv
    go_wp2_with fail
    go_ret2
    exact ⟨_, by rw [HV.out]; rfl, by rw [HV.out]; exact OwnAt.nil _ _ _ _ _, HBA.out⟩
  · obtain ⟨hVG, hvd, hg4⟩ := vg_of hv
    have HV := Lib.hid (show leastK fs g = leastW g (lvlC g fs.length 0) 0 (fs.map (·.lo)) by simp [leastK, hv])
    have HL := Lib.hid (show leastL fs = fs.map (·.lo) by simp [leastL, hvd])
    have HVG := Lib.hid hVG
    clear hv hVG hvd
    go_wp2_with fail
    refine (factLeast_any SF fs _ w1 (HF.out.keep HBA.out.size (Agree.of_below HBA.out) (fun _ _ h => h))).mono ?_
    rintro e w2 ⟨vo, rfl, ho, hb2⟩
    rw [HL.out] at ho
    have HO := Lib.hid ho
    have HBB := Lib.hid (bthen HBA.out hb2)
    have HD1 := Lib.hid (below_ hb2 HC1.out)
    have hz1 := HBA.out.size
    have hz2 := hb2.size
    clear ho hb2 d0 ld HC1 HC2
    go_wp2_with fail
    go_loopw [7, 8, 9] (fun v7 _ _ wr => ∃ (k : Nat) (l : List Int), v7 = .int .i64 k ∧ k < g.length ∧ Hid (l.length = fs.length) ∧ Hid (leastK fs g = leastW g (lvlC g fs.length k) k l) ∧ Hid (OwnAt wr w.heap.size 3 1 IntR vo l) ∧ Hid (Below w.heap.size w wr) ∧ Hid (wr.heap[w.heap.size]? = some (.cells #[.slice AG g.length cG] 34 (0, 0)))) (fun v7 _ _ _ => lvlC g fs.length (intOf v7))
    case atStart => exact ⟨0, fs.map (·.lo), rfl, by have := HVG.out.pos.2; omega, Lib.hid (by simp), HV, Lib.hid (own_mono HO.out hz1), HBB, HD1⟩
    case round =>
      obtain ⟨k, l, rfl, hk, HLL, HW, HOW, HB, HD⟩ := hrel
      obtain ⟨b, o, A2, c2, A3, c3, rfl, _, hb, hN, e0, e1, e2, e3⟩ := nd_cells (HG.out.keep HB.out.size (Agree.of_below HB.out) (fun _ hb hs => (⟨hs, hb⟩ : S _ ∧ _ < w.heap.size))) hk
      have hxm : g[k] ∈ g := List.getElem_mem hk
      have HXS := Lib.hid (HSZ.out _ hxm)
      have HX := Lib.hid (nd_at hk)
      have HIN := Lib.hid (show InR g (k : Int) from ⟨by omega, by omega⟩)
      have HN := Lib.hid hN
      obtain ⟨q0, _⟩ := one_ HD.out
      have lq := blt_ HD.out
      have hks : (k : Int) < (g.length : Int) := by omega
      have hkk := SliceAt.len hN.kids
      have hkc := SliceAt.len hN.cuts
      unfold N44 at hkk hkc
      clear hxm hN
      by_cases h0 : g[k].kids.length = 0
      · have h0' : decide ((0 : Int) < (g[k].kids.length : Int)) = false := decide_eq_false (by omega)
        have h0n : decide (0 < g[k].kids.length) = false := decide_eq_false (by omega)
        have HW2 := Lib.hid (show leastK fs g = if g[k].leaf = true then (l, true) else ([], false) by
          rw [HW.out]
          have : lvlC g fs.length (k : Int) = 0 + 1 := by unfold lvlC; rw [HX.out, if_pos h0]
          rw [this, leastW, HX.out, if_pos h0])
        clear h0
        cases hlf : g[k].leaf
        · rw [hlf] at HW2 e0
          clear hlf
          go_wp2_with fail
          go_ret2
          exact ⟨_, by rw [HW2.out]; rfl, by rw [HW2.out]; exact OwnAt.nil _ _ _ _ _, HB.out⟩
        · rw [hlf] at HW2 e0
          clear hlf
          obtain ⟨Ao, co, rfl⟩ := HOW.out.shape
          go_wp2_with fail
          go_ret2
          exact ⟨_, by rw [HW2.out]; rfl, by rw [HW2.out]; exact HOW.out, HB.out⟩
      · have h0' : (0 : Int) < (g[k].kids.length : Int) := by omega
        have hne : (ndAt g (k : Int)).kids ≠ [] := by rw [HX.out]; intro e; rw [e] at h0; simp at h0
        have HP := Lib.hid (HVG.out.node HIN.out hne)
        obtain ⟨i, hi, hil⟩ := live_some HVG.out HIN.out hne
        have HST := Lib.hid (leastW_step HVG.out l HIN.out hne hi hil)
        have HI := Lib.hid (show idxI (fun c => liveN (ndAt g c)) g[k].kids = (i : Int) by rw [← HX.out]; exact hi)
        rw [HX.out] at HP hil
        have hkid : (ndAt g (k : Int)).kids[i]'(by rw [HX.out]; exact hil) = g[k].kids[i] := by simp only [HX.out]
        rw [hkid, HX.out] at HST
        clear hne hi hkid h0
        obtain ⟨bk, ok, rfl, hbkw, hbk, kk, hki⟩ := int_cell HN.out.kids hil
        have hkm : g[k].kids[i] ∈ g[k].kids := List.getElem_mem hil
        have hkr := HP.out.rng _ hkm
        have HLV := Lib.hid (show lvlC g fs.length g[k].kids[i] + 1 ≤ lvlC g fs.length (k : Int) from by
          have := lvlC_kid (g := g) (fs := fs) (k := (k : Int)) (c := g[k].kids[i]) (by rw [HX.out]; exact HP.out) (by rw [HX.out]; intro e; rw [e] at hil; simp at hil) (by rw [HX.out]; exact hkm)
          exact this)
        clear hkm
        obtain ⟨kn, hkn⟩ : ∃ kn : Nat, g[k].kids[i] = kn := ⟨g[k].kids[i].toNat, by have := hkr.1; omega⟩
        rw [hkn] at kk HST HLV hkr
        have hknl : kn < g.length := by have := hkr.2; omega
        have HPL := Lib.hid HP.out.len
        have hik : (i : Int) < (g[k].kids.length : Int) := by omega
        clear hkr hkn hki HIN HX hil
        generalize g[k] = x at *
        obtain ⟨xl, xf, xc, xk⟩ := x
        dsimp only at *
        have hf0 : 0 ≤ xf := HP.out.f0
        have hf1 : xf < fs.length := HP.out.f1
        obtain ⟨fn, rfl⟩ : ∃ fn : Nat, xf = fn := ⟨xf.toNat, by omega⟩
        have hfn : fn < fs.length := by omega
        clear hf0 hf1
        go_wp2_with fail
        have HBX := Lib.hid (HB.out.alloc HB.out.size (.cells #[.bool xl, .int .i64 (fn : Int), .slice A2 xc.length c2, .slice (some ⟨bk, ok, none⟩) xk.length c3] 55))
        have HDX := Lib.hid (old_ (o := .cells #[.bool xl, .int .i64 (fn : Int), .slice A2 xc.length c2, .slice (some ⟨bk, ok, none⟩) xk.length c3] 55) HD.out)
        have HPX := Lib.hid (new_ wr (.cells #[.bool xl, .int .i64 (fn : Int), .slice A2 xc.length c2, .slice (some ⟨bk, ok, none⟩) xk.length c3] 55))
        refine (idxInt63 w.heap.size _ (fun c => liveN (ndAt g c)) xk (some ⟨bk, ok, none⟩) c3 _ (HN.out.keep (box_below wr _)).kids (fun kk w' hkk hb' => by
          have hr := HP.out.rng kk hkk
          obtain ⟨kk', rfl⟩ : ∃ kk' : Nat, kk = kk' := ⟨kk.toNat, by have := hr.1; omega⟩
          have hkk' : kk' < g.length := by have := hr.2; omega
          have := live_any (fun _ => True) g (some ⟨b, o, none⟩) cG w.heap.size kk' w' (HG.out.keep (Nat.le_trans HBX.out.size hb'.size) (Agree.of_below (HBX.out.trans (hb'.mono HBX.out.size))) (fun _ _ _ => trivial)) (below_ hb' HDX.out) hkk'
          rw [← nd_at hkk'] at this
          exact this)).mono ?_
        rintro e w3 ⟨rfl, hb3⟩
        rw [HI.out]
        have HB3 := Lib.hid (HBX.out.trans (hb3.mono HBX.out.size))
        have HD3 := Lib.hid (below_ hb3 HDX.out)
        have HP3 := Lib.hid (below_ hb3 HPX.out)
        have HO3 := Lib.hid (own_below2 HOW.out (bthen (box_below wr _) hb3))
        obtain ⟨q0, _⟩ := one_ HD3.out
        have lq := blt_ HD3.out
        obtain ⟨p0, p1, p2, p3, _⟩ := four_ HP3.out
        have lp := blt_ HP3.out
        have hz3 := HB3.out.size
        have HBW := Lib.hid (bthen (box_below wr (.cells #[.bool xl, .int .i64 (fn : Int), .slice A2 xc.length c2, .slice (some ⟨bk, ok, none⟩) xk.length c3] 55)) hb3)
        have kk3 := ((bthen (box_below wr _) hb3).cell (p := ⟨bk, ok + i, none⟩) hbk).trans kk
        clear hb3 HBX HDX HPX e0 e1 e2 e3 kk
        by_cases hi0 : 0 < i
        · rw [if_pos hi0] at HST
          obtain ⟨m, rfl⟩ : ∃ m, i = m + 1 := ⟨i - 1, by omega⟩
          have hmc : m < xc.length := by have := HPL.out; omega
          obtain ⟨bc, oc, rfl, _, hbc, kc, hci⟩ := int_cell (HN.out.keep HBW.out).cuts hmc
          have HCM := Lib.hid (show xc.getD (m + 1 - 1) 0 = xc[m] by simp [hmc])
          rw [HCM.out] at HST
          have HCI := Lib.hid hci
          clear hci HCM
          generalize xc[m] = cm at *
          have hwm : IntKind.i64.wrap (m : Int) = (m : Int) := by rw [IntKind.wrap_i64]; omega
          have hmc' : (m : Int) < (xc.length : Int) := by omega
          have hlp : 0 < l.length := by have := HLL.out; omega
          obtain ⟨gg, co, rfl, _, hgB, hgl2, hgf, ⟨gcur, hgc2⟩, hgc⟩ := HO3.out.at_ hlp
          have hfl : fn < l.length := by have := HLL.out; omega
          have hflI : (fn : Int) < (l.length : Int) := by omega
          obtain ⟨cs0, hcs0, hR0, hcc0⟩ := hgc fn l[fn] (List.getElem?_eq_getElem hfl)
          obtain ⟨rfl, _⟩ := hR0
          have hg0 := hcc0 0 _ rfl
          have hgf0 := hgf fn
          rw [Nat.mul_one, Nat.add_zero] at hg0
          have HSET := Lib.hid (own_set (y := cm) HO3.out (List.getElem?_eq_getElem hfl) (i := 0) (by decide) (.int .i64 cm) (fun cs hl hr => by obtain ⟨rfl, _⟩ := hr; exact ⟨rfl, HCI.out⟩))
          have HLV2 := Lib.hid (show lvlC g fs.length (kn : Int) < lvlC g fs.length (k : Int) by have := HLV.out; omega)
          clear hgc hgf hcc0 hi0 HLV
          go_wp2_with fail
          go_region
          have hne1 : w.heap.size ≠ gg := by rintro rfl; rw [HD3.out] at hgc2; simp at hgc2
          have hne2 : wr.heap.size ≠ gg := by rintro rfl; rw [HP3.out] at hgc2; simp at hgc2
          have hne3 : bk ≠ gg := by have := hbkw.2; omega
          obtain ⟨W4, hW4⟩ : ∃ W4, W4 = (w3.setCell ⟨gg, fn, none⟩ (.int .i64 cm)).drew := ⟨_, rfl⟩
          have hoth : ∀ k, k ≠ gg → W4.heap[k]? = w3.heap[k]? := fun k hk => by rw [hW4]; exact Below.heap_setCell _ _ _ _ hk
          have HB4 := Lib.hid (show Below w.heap.size w W4 from by rw [hW4]; exact (HB3.out.setCell (p := ⟨gg, fn, none⟩) hgB _).drew)
          have HO4 := Lib.hid (show OwnAt W4 w.heap.size 3 1 IntR (.slice (some ⟨gg, 0, none⟩) l.length co) (l.set fn cm) from by have := HSET.out; rw [Nat.mul_one, Nat.add_zero] at this; rw [hW4]; exact this)
          have HD4 := Lib.hid ((hoth _ hne1).trans HD3.out)
          have HP4 := Lib.hid ((hoth _ hne2).trans HP3.out)
          have kk4 : W4.cell? ⟨bk, ok + (m + 1), none⟩ = some (.int .i64 (kn : Int)) := (World.cell?_of_block (hoth bk hne3)).trans kk3
          obtain ⟨_, _, _, p3', _⟩ := four_ HP4.out
          have lp' := blt_ HP4.out
          rw [← hW4]
          have HLE := Lib.hid (show (l.set fn cm).length = fs.length by simpa using HLL.out)
          clear hoth hW4 p0 p1 p2 p3 lp q0 lq kk3 hg0 hgf0 hne1 hne2 hne3 HSET HD3 HP3
          go_wp2_with fail
          go_roundw
          case rel => exact ⟨kn, l.set fn cm, rfl, hknl, HLE, Lib.hid (by rw [HW.out, HST.out, Int.toNat_natCast]), HO4, HB4, HD4⟩
          case measure => simp only [intOf]; exact HLV2.out
        · obtain rfl : i = 0 := by omega
          rw [Nat.add_zero] at kk3
          rw [if_neg hi0] at HST
          have HLV2 := Lib.hid (show lvlC g fs.length (kn : Int) < lvlC g fs.length (k : Int) by have := HLV.out; omega)
          clear hi0 HLV
          go_wp2_with fail
          go_roundw
          case rel => exact ⟨kn, l, rfl, hknl, HLL, Lib.hid (by rw [HW.out, HST.out]), HO3, HB3, HD3⟩
          case measure => simp only [intOf]; exact HLV2.out
end Go.Proofs.YtfajbcjcigajfaaGreatDoor
