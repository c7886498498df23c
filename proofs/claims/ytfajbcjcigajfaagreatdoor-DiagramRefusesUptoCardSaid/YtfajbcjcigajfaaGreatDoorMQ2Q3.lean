/- Part of the proof of a law of customhouselaw26: the texts Q2 Q3. -/
import Derived.Test.YtfajbcjcigajfaaGreatDoorMQ1
import Derived.Test.YtfajbcjcigajfaaGreatDoorMV2
/- The walks of what Valid asks of all nodes. -/
namespace Go.Proofs.YtfajbcjcigajfaaGreatDoor
open Go.RowKit

/-- The boxes of the closure that asks. -/
structure BadAt (S SF : Nat → Prop) (w : World) (bg bd : Nat) (AG : Option Addr) (cG : Nat) (g : List Nd) (AD : Option Addr) (cD : Nat) (fs : List Fc) : Prop where
  gb : w.heap[bg]? = some (.cells #[.slice AG g.length cG] 34 (0, 0))
  db : w.heap[bd]? = some (.cells #[.slice AD fs.length cD] 27 (0, 0))
  hg : NdsAt S w (.slice AG g.length cG) g
  hf : FcsAt SF w (.slice AD fs.length cD) fs
theorem BadAt.keep {S SF : Nat → Prop} {w w1 : World} {bg bd : Nat} {AG : Option Addr} {cG : Nat} {g : List Nd} {AD : Option Addr} {cD : Nat} {fs : List Fc} (h : BadAt S SF w bg bd AG cG g AD cD fs) (hb : Below w.heap.size w w1) :
    BadAt S SF w1 bg bd AG cG g AD cD fs := ⟨below_ hb h.gb, below_ hb h.db, h.hg.keep hb.size (Agree.of_below hb) (fun _ _ h => h), h.hf.keep hb.size (Agree.of_below hb) (fun _ _ h => h)⟩
set_option maxRecDepth 100000 in
set_option maxHeartbeats 1000000 in
theorem bad_any (S SF S2 : Nat → Prop) (bg bd : Nat) (AG : Option Addr) (cG : Nat) (g : List Nd) (AD : Option Addr) (cD : Nat) (fs : List Fc) (x : Nd) (A2 : Option Addr) (c2 : Nat) (A3 : Option Addr) (c3 : Nat) (w : World)
    (h : BadAt S SF w bg bd AG cG g AD cD fs) (hx : NdIn S2 w x A2 c2 A3 c3) (hgl : g.length ≤ 1000000) (hfl : fs.length ≤ 1000000) :
    Calls Tryz.prog 54 #[ndV x A2 c2 A3 c3, .pointer (some ⟨bg, 0, none⟩), .pointer (some ⟨bd, 0, none⟩)] w (BoolE (!properN g fs x) w) := by
  have hb0 := box_below w (.cells #[.bool x.leaf, .int .i64 x.fact, .slice A2 x.cuts.length c2, .slice A3 x.kids.length c3] 55)
  have H := Lib.hid (h.keep hb0)
  have HX := Lib.hid (hx.cuts.keep hb0.size (Agree.of_below hb0) (fun _ _ h => h))
  have HX3 := Lib.hid (hx.kids.keep hb0.size (Agree.of_below hb0) (fun _ _ h => h))
  have HXF := Lib.hid hx.fact
  obtain ⟨g0, g1⟩ := one_ h.gb
  obtain ⟨d0, d1⟩ := one_ h.db
  have lg := blt_ h.gb
  have ld := blt_ h.db
  clear h hx hb0
  go_enter Tryz.func54, Tryz.ntmps54
  go_wp2_with fail
  refine (proper_any S S2 SF g x fs AG cG A2 c2 A3 c3 AD cD _ H.out.hg ⟨HXF.out, HX.out, HX3.out⟩ H.out.hf hgl hfl).mono ?_
  rintro e w2 ⟨rfl, hb2⟩
  have HB2 := Lib.hid (bthen (box_below _ _) hb2)
  clear hb2
  go_wp2_with fail
  go_ret
  exact ⟨rfl, HB2.out⟩
set_option maxRecDepth 100000 in
set_option maxHeartbeats 2000000 in
theorem idxBad (S SF : Nat → Prop) (bg bd : Nat) (AG : Option Addr) (cG : Nat) (g : List Nd) (AD : Option Addr) (cD : Nat) (fs : List Fc) (w : World) (h : BadAt S SF w bg bd AG cG g AD cD fs) (hgl : g.length ≤ 1000000) (hfl : fs.length ≤ 1000000) :
    Calls Tryz.prog 103 #[.slice AG g.length cG, .func (Fn.func 54) #[] #[.pointer (some ⟨bg, 0, none⟩), .pointer (some ⟨bd, 0, none⟩)]] w fun e w' => e = .returned (.int .i64 (idxI (fun x => !properN g fs x) g)) ∧ Below w.heap.size w w' := by
  have H := Lib.hid h
  clear h
  go_enter Tryz.func103, Tryz.ntmps103
  go_wp2_with fail
  go_loopw [5, 8] (fun _ v wr => ∃ j : Nat, j ≤ g.length ∧ v = .int .i64 j ∧ Hid (∀ x ∈ g.take j, (!properN g fs x) = false) ∧ Hid (Below w.heap.size w wr)) (fun _ v _ => g.length - (intOf v).toNat)
  case atStart => exact ⟨0, Nat.zero_le _, rfl, Lib.hid (fun x h => by simp at h), Lib.hid (Below.refl _ _)⟩
  case round =>
    obtain ⟨j, hj, rfl, HN, HB⟩ := hrel
    by_cases hlt : j < g.length
    · have HH := Lib.hid (H.out.keep HB.out)
      obtain ⟨b, o, A2, c2, A3, c3, rfl, _, hbl, hN, e0, e1, e2, e3⟩ := nd_cells HH.out.hg hlt
      have hmem : g[j] ∈ g := List.getElem_mem hlt
      have HF := Lib.hid (List.getElem?_eq_getElem hlt)
      have HNN := Lib.hid hN
      generalize g[j] = x at *
      have hjs : (j : Int) < (g.length : Int) := by omega
      clear hN
      go_wp2_with fail
      refine (bad_any S SF S bg bd (some ⟨b, o, none⟩) cG g AD cD fs x A2 c2 A3 c3 wr HH.out HNN.out hgl hfl).mono ?_
      rintro e w2 ⟨rfl, hb2⟩
      have HB2 := Lib.hid (bthen HB.out hb2)
      clear HB hb2 e0 e1 e2 e3
      cases hp : (!properN g fs x)
      · have HP := Lib.hid hp
        clear hp
        go_wp2_with fail
        go_roundw
        case rel => exact ⟨j + 1, by omega, by go_num, Lib.hid (nofirst_snoc HF.out HP.out HN.out), HB2⟩
        case measure => simp [intOf]; omega
      · have HP := Lib.hid hp
        clear hp
        go_wp2_with fail
        go_ret
        exact ⟨by rw [idxI_some HF.out HP.out HN.out]; rfl, HB2.out⟩
    · obtain rfl : j = g.length := by omega
      have HI := Lib.hid (idxI_none (p := fun x => !properN g fs x) (xs := g) (by have := HN.out; rw [List.take_length] at this; exact this))
      go_wp2_with fail
      go_ret
      exact ⟨by rw [HI.out]; rfl, HB.out⟩
set_option maxRecDepth 100000 in
set_option maxHeartbeats 2000000 in
theorem anyBad (S SF : Nat → Prop) (bg bd : Nat) (AG : Option Addr) (cG : Nat) (g : List Nd) (AD : Option Addr) (cD : Nat) (fs : List Fc) (w : World) (h : BadAt S SF w bg bd AG cG g AD cD fs) (hgl : g.length ≤ 1000000) (hfl : fs.length ≤ 1000000) :
    Calls Tryz.prog 56 #[.slice AG g.length cG, .func (Fn.func 54) #[] #[.pointer (some ⟨bg, 0, none⟩), .pointer (some ⟨bd, 0, none⟩)]] w (BoolE (g.any fun x => !properN g fs x) w) := by
  have HA := Lib.hid (any_idxI (fun x => !properN g fs x) g)
  have H := Lib.hid h
  clear h
  go_enter Tryz.func56, Tryz.ntmps56
  go_wp2_with fail
  refine (idxBad S SF bg bd AG cG g AD cD fs w H.out hgl hfl).mono ?_
  rintro e w2 ⟨rfl, hb2⟩
  have HB2 := Lib.hid hb2
  clear hb2
  go_wp2_with fail
  go_ret
  exact ⟨by rw [HA.out]; rfl, HB2.out⟩
end Go.Proofs.YtfajbcjcigajfaaGreatDoor
/- The walk of Valid. -/
namespace Go.Proofs.YtfajbcjcigajfaaGreatDoor
open Go.RowKit

def newB (g : List Nd) (j : Nat) : Bool := decide (posN (g.take j) (g.getD j nd0) = j)
def newsB (g : List Nd) (n : Nat) : Bool := (List.range n).all (newB g)
/-- What Valid answers. -/
def validG (g : List Nd) (fs : List Fc) : Bool := validD fs && !(decide (g.length = 0)) && !(decide (4000 < g.length)) && !(g.any fun x => !properN g fs x) && newsB g g.length && sameG (fromL g 0) g
theorem newsB_succ (g : List Nd) (n : Nat) : newsB g (n + 1) = (newsB g n && newB g n) := by unfold newsB; rw [List.range_succ, List.all_append]; simp
theorem newsB_no {g : List Nd} {n i : Nat} (hi : i < n) (h : newB g i = false) : newsB g n = false := by
  rw [Bool.eq_false_iff]
  intro ha
  have := List.all_eq_true.1 ha i (List.mem_range.2 hi)
  rw [h] at this; cases this
theorem add_new {g : List Nd} {j : Nat} {x : Nd} (hx : g[j]? = some x) (h : posN (g.take j) x = j) (hj : j < g.length) : addN (g.take j) x = g.take (j + 1) := by
  unfold posN at h
  unfold addN
  cases hf : findN (g.take j) x with
  | none => rw [take_snoc hx]; rfl
  | some i =>
    rw [hf] at h
    unfold findN at hf
    obtain ⟨hi, _⟩ := List.findIdx?_eq_some_iff_getElem.1 hf
    simp at h hi
    omega
theorem proper_cl {g : List Nd} {fs : List Fc} (h : (g.any fun x => !properN g fs x) = false) : ∀ k, InR g k → ∀ c ∈ (ndAt g k).kids, InR g c := by
  intro k hk c hc
  have hlt : k.toNat < g.length := by have := hk.1; have := hk.2; omega
  have hm : ndAt g k ∈ g := by
    unfold ndAt
    rw [List.getD_eq_getElem?_getD, List.getElem?_eq_getElem hlt]
    exact List.getElem_mem hlt
  have hp : properN g fs (ndAt g k) = true := by
    have := List.any_eq_false.1 h _ hm
    simpa using this
  generalize ndAt g k = x at *
  unfold properN at hp
  obtain ⟨i, hi, rfl⟩ := List.mem_iff_getElem.1 hc
  rw [if_neg (by omega)] at hp
  split at hp
  · cases hp
  · simp only [Bool.and_eq_true] at hp
    have h1 := List.all_eq_true.1 hp.2 i (List.mem_range.2 hi)
    have h2 : x.kids.getD i 0 = x.kids[i] := by simp [hi]
    rw [h2] at h1
    unfold kidB at h1
    simp only [Bool.and_eq_true, Bool.not_eq_true', decide_eq_false_iff_not, decide_eq_true_eq] at h1
    exact ⟨by omega, h1.1.1.2⟩
set_option maxRecDepth 100000 in
set_option maxHeartbeats 4000000 in
theorem valid_any (S SF : Nat → Prop) (g : List Nd) (v : Value) (fs : List Fc) (vd : Value) (w : World) (hg : NdsAt S w v g) (hf : FcsAt SF w vd fs) (hgl : g.length ≤ 1000000) (hsz : ∀ x ∈ g, x.cuts.length ≤ 1000000 ∧ x.kids.length ≤ 1000000) (ht : Tab w) :
    Calls Tryz.prog 15 #[.agg #[v], .agg #[vd]] w (BoolE (validG g fs) w) := by
  obtain ⟨AG, cG, rfl, _⟩ := id hg
  obtain ⟨AD, cD, rfl, _⟩ := id hf
  have HV := Lib.hid (show validG g fs = _ from rfl)
  unfold validG at HV
  have HT := Lib.hid (Lib.tabBelow_of_tabIs ht)
  have HSZ := Lib.hid hsz
  have hb0 : Below w.heap.size w ((w.alloc (.cells #[.slice AG g.length cG] 34)).alloc (.cells #[.slice AD fs.length cD] 27)) := ((Below.refl _ _).alloc (Nat.le_refl _) _).alloc (by simp) _
  have b1 : ((w.alloc (.cells #[.slice AG g.length cG] 34)).alloc (.cells #[.slice AD fs.length cD] 27)).heap[w.heap.size]? = some (.cells #[.slice AG g.length cG] 34 (0, 0)) := old_ (new_ _ _)
  have b2 : ((w.alloc (.cells #[.slice AG g.length cG] 34)).alloc (.cells #[.slice AD fs.length cD] 27)).heap[w.heap.size + 1]? = some (.cells #[.slice AD fs.length cD] 27 (0, 0)) := alk _ _ (by simp)
  have HB0 := Lib.hid hb0
  have HB1 := Lib.hid b1
  have HB2 := Lib.hid b2
  have HG := Lib.hid hg
  have HF := Lib.hid hf
  clear hg hf ht hsz hb0 b1 b2
  go_enter Tryz.func15, Tryz.ntmps15
  go_wp2_with fail
  refine (validFact_any SF fs _ _ (HF.out.keep HB0.out.size (Agree.of_below HB0.out) (fun _ _ h => h))).mono ?_
  rintro e w1 ⟨rfl, hb1⟩
  have HBA := Lib.hid (bthen HB0.out hb1)
  have HC1 := Lib.hid (below_ hb1 HB1.out)
  have HC2 := Lib.hid (below_ hb1 HB2.out)
  clear hb1
  obtain ⟨g0, g1⟩ := one_ HC1.out
  have lg := blt_ HC1.out
  cases hvd : validD fs
  · have HV2 := Lib.hid (show validG g fs = false by unfold validG; rw [hvd]; rfl)
    clear hvd
    go_wp2_with fail
    go_ret
    exact ⟨by rw [HV2.out]; rfl, HBA.out⟩
  · by_cases h0 : g.length = 0
    · have h0' : ((g.length : Int) == 0) = true := by simp [h0]
      have HV2 := Lib.hid (show validG g fs = false by unfold validG; rw [hvd]; simp [h0])
      clear hvd h0
      go_wp2_with fail
      go_ret
      exact ⟨by rw [HV2.out]; rfl, HBA.out⟩
    · have h0' : ((g.length : Int) == 0) = false := beq_eq_false_iff_ne.2 (by omega)
      by_cases h4 : 4000 < g.length
      · have h4' : (4000 : Int) < (g.length : Int) := by omega
        have HV2 := Lib.hid (show validG g fs = false by unfold validG; rw [hvd]; simp [h4])
        clear hvd h0 h4
        go_wp2_with fail
        go_ret
        exact ⟨by rw [HV2.out]; rfl, HBA.out⟩
      · have h4' : ¬ (4000 : Int) < (g.length : Int) := by omega
        have hfl : fs.length ≤ 60 := by
          unfold validD at hvd
          simp only [Bool.and_eq_true, decide_eq_true_eq] at hvd
          exact hvd.2
        have HVD := Lib.hid hvd
        have H0 := Lib.hid h0
        have H4 := Lib.hid h4
        clear hvd h0 h4
        go_wp2_with fail
        refine (anyBad (fun b => S b ∧ b < w.heap.size) (fun b => SF b ∧ b < w.heap.size) w.heap.size (w.heap.size + 1) AG cG g AD cD fs w1 ⟨HC1.out, HC2.out, HG.out.keep HBA.out.size (Agree.of_below HBA.out) (fun _ hb hs => ⟨hs, hb⟩), HF.out.keep HBA.out.size (Agree.of_below HBA.out) (fun _ hb hs => ⟨hs, hb⟩)⟩ hgl (by omega)).mono ?_
        rintro e w2 ⟨rfl, hb2⟩
        have HBB := Lib.hid (bthen HBA.out hb2)
        have HD1 := Lib.hid (below_ hb2 HC1.out)
        clear hb2 HC1 HC2 g0 g1 lg
        obtain ⟨g0, g1⟩ := one_ HD1.out
        have lg := blt_ HD1.out
        cases hab : (g.any fun x => !properN g fs x)
        · have HCL := Lib.hid (proper_cl hab)
          have HAB := Lib.hid hab
          clear hab
          go_wp2_with fail
          have hz2 := HBB.out.size
          have HG2 := Lib.hid (HG.out)
          go_loopw [7, 8, 38] (fun _ _ v wr => ∃ (j : Nat) (S' : Nat → Prop), j ≤ g.length ∧ v = .int .i64 j ∧ Hid (newsB g j = true) ∧ Hid (MkAt S' wr w.heap.size w2.heap.size (g.take j)) ∧ Hid (Below w.heap.size w wr) ∧ Hid (wr.heap[w.heap.size]? = some (.cells #[.slice AG g.length cG] 34 (0, 0)))) (fun _ _ v _ => g.length - (intOf v).toNat)
          case atStart =>
            refine ⟨0, fun _ => False, Nat.zero_le _, rfl, Lib.hid rfl, Lib.hid ⟨hz2, fun b hb => hb.elim, .slice none 0 0, .map none, new_ _ _, ?_, .inl ⟨rfl, rfl⟩⟩, Lib.hid (HBB.out.alloc HBB.out.size _), Lib.hid (old_ HD1.out)⟩
            exact OwnAt.nil _ _ _ _ _
          case round =>
            clear HBB HD1 g0 g1 lg
            obtain ⟨j, S', hj, rfl, HN, HM, HB, HD1⟩ := hrel
            obtain ⟨g0, g1⟩ := one_ HD1.out
            have lg := blt_ HD1.out
            by_cases hlt : j < g.length
            · obtain ⟨b, o, A2, c2, A3, c3, rfl, _, hbl, hNN, e0, e1, e2, e3⟩ := nd_cells (HG.out.keep HB.out.size (Agree.of_below HB.out) (fun _ hb hs => (⟨hs, hb⟩ : S _ ∧ _ < w.heap.size))) hlt
              have hxs := HSZ.out g[j] (List.getElem_mem hlt)
              have HX := Lib.hid (List.getElem?_eq_getElem hlt)
              have HNB := Lib.hid (show newB g j = decide (posN (g.take j) g[j] = j) by unfold newB; rw [List.getD_eq_getElem?_getD, List.getElem?_eq_getElem hlt]; rfl)
              have HNN := Lib.hid hNN
              generalize g[j] = x at *
              have hjs : (j : Int) < (g.length : Int) := by omega
              clear hNN
              go_wp2_with fail
              refine (node_any S' (fun b => S b ∧ b < w.heap.size) w.heap.size w2.heap.size (g.take j) x A2 c2 A3 c3 _ hxs.1 hxs.2 (by simp; omega) (HM.out.keep (box_below _ _)) (HNN.out.keep2 (B0 := w.heap.size) (box_below _ _) (fun b hb => ⟨Nat.lt_of_lt_of_le hb.2 HB.out.size, .inl hb.2⟩)).1 (fun b hb => ⟨by have := HB.out.size; simp; omega, .inl hb.2⟩) (HT.out.on (HB.out.alloc HB.out.size _)).here).mono ?_
              rintro e w5 ⟨rfl, hm5, hu5⟩
              have hz5 : w.heap.size ≤ (wr.alloc (.cells #[.bool x.leaf, .int .i64 x.fact, .slice A2 x.cuts.length c2, .slice A3 x.kids.length c3] 55)).heap.size := by simp; have := HB.out.size; omega
              have HB5 := Lib.hid ((HB.out.alloc HB.out.size _).trans (hu5.below hz5))
              have HD5 := Lib.hid ((hu5.block w.heap.size (blt_ (old_ HD1.out)) (.inr ⟨_, 34, _, old_ HD1.out, rfl⟩)).trans (old_ HD1.out))
              have HM5 := Lib.hid hm5
              clear hm5 hu5 HB HM HD1 g0 g1 lg e0 e1 e2 e3
              by_cases hp : posN (g.take j) x = j
              · have HP := Lib.hid (add_new HX.out hp hlt)
                have HN2 := Lib.hid (show newsB g (j + 1) = true by rw [newsB_succ, HN.out, HNB.out, decide_eq_true hp]; rfl)
                rw [hp]
                clear hp
                have hpp : ((j : Int) != (j : Int)) = false := by simp
                go_wp2_with fail
                go_roundw
                case rel => exact ⟨j + 1, _, by omega, by go_num, HN2, Lib.hid (by have := HM5.out; rw [HP.out] at this; exact this), HB5, HD5⟩
                case measure => simp [intOf]; omega
              · have hpp : ((posN (g.take j) x : Int) != (j : Int)) = true := by simp; omega
                have HV2 := Lib.hid (show validG g fs = false by unfold validG; rw [newsB_no hlt (by rw [HNB.out]; exact decide_eq_false hp)]; simp)
                clear hp
                go_wp2_with fail
                go_ret
                exact ⟨by rw [HV2.out]; rfl, HB5.out⟩
            · obtain rfl : j = g.length := by omega
              have hm := HM.out
              rw [List.take_length] at hm
              have HM2 := Lib.hid hm
              clear hm HM
              go_wp2_with fail
              refine (from_any S' w.heap.size w2.heap.size g 0 wr HM2.out hgl HCL.out ⟨Int.le_refl _, by have := H0.out; omega⟩ (fun x hx => (HSZ.out x hx).2)).mono ?_
              rintro e w6 ⟨v6, rfl, hn6, hb6⟩
              have HN6 := Lib.hid hn6
              have HB6 := Lib.hid (HB.out.trans (hb6.mono HB.out.size))
              have HD6 := Lib.hid (below_ hb6 HD1.out)
              have HFK := Lib.hid (show (fromK g 0).1 = fromL g 0 by
                have h1 := (visit_ord HCL.out (g.length + 1) [] 0 (OrdOk.nil g) ⟨Int.le_refl _, by have := H0.out; omega⟩).1.len
                unfold fromK
                rw [if_neg (by have := H4.out; omega)])
              clear hn6 hb6 HD1 g0 g1 lg
              obtain ⟨g0, g1⟩ := one_ HD6.out
              have lg := blt_ HD6.out
              obtain ⟨A6, c6, rfl, _⟩ := id HN6.out
              go_wp2_with fail
              have HBL := Lib.hid (HB6.out.alloc HB6.out.size (.cells #[.slice A6 (fromK g 0).1.length c6] 34))
              refine (same_any (fun _ => True) S (fromK g 0).1 g _ _ _ (HN6.out.keep (by simp) (Agree.of_below (box_below _ _)) (fun _ _ h => h)) (HG.out.keep HBL.out.size (Agree.of_below HBL.out) (fun _ _ h => h))).mono ?_
              rintro e w7 ⟨rfl, hb7⟩
              have HB7 := Lib.hid (bthen HBL.out hb7)
              have HV2 := Lib.hid (show validG g fs = sameG (fromK g 0).1 g by
                unfold validG
                rw [HVD.out, HAB.out, HN.out, HFK.out, decide_eq_false H0.out, decide_eq_false H4.out]; rfl)
              clear hb7
              go_wp2_with fail
              go_ret
              exact ⟨by rw [HV2.out]; rfl, HB7.out⟩
        · have HV2 := Lib.hid (show validG g fs = false by unfold validG; rw [hab]; simp)
          clear hab
          go_wp2_with fail
          go_ret
          exact ⟨by rw [HV2.out]; rfl, HBB.out⟩
end Go.Proofs.YtfajbcjcigajfaaGreatDoor
