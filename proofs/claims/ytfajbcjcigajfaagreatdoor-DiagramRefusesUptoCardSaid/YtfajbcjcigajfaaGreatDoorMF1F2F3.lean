/- Part of the proof of a law of customhouselaw26: the texts F1 F2 F3. -/
import Derived.Deep.DeepCutAuto
import Derived.Test.YtfajbcjcigajfaaGreatDoorME2E3E4E5
namespace Go.Proofs.YtfajbcjcigajfaaGreatDoor
open Go.RowKit

/-- A node, as an argument. -/
abbrev ndV (x : Nd) (A2 : Option Addr) (c2 : Nat) (A3 : Option Addr) (c3 : Nat) : Value := .agg #[.bool x.leaf, .int .i64 x.fact, .slice A2 x.cuts.length c2, .slice A3 x.kids.length c3]
/-- What the slices of a node hold. -/
structure NdIn (S : Nat → Prop) (w : World) (x : Nd) (A2 : Option Addr) (c2 : Nat) (A3 : Option Addr) (c3 : Nat) : Prop where
  fact : I64 x.fact
  cuts : IntsAt S w (.slice A2 x.cuts.length c2) x.cuts
  kids : IntsAt S w (.slice A3 x.kids.length c3) x.kids
theorem NdIn.keep {S : Nat → Prop} {w w' : World} {x : Nd} {A2 : Option Addr} {c2 : Nat} {A3 : Option Addr} {c3 : Nat} (h : NdIn S w x A2 c2 A3 c3) (hb : Below w.heap.size w w') : NdIn (fun b => S b ∧ b < w.heap.size) w' x A2 c2 A3 c3 :=
  ⟨h.fact, h.cuts.keep hb.size (Agree.of_below hb) (fun _ hb hs => ⟨hs, hb⟩), h.kids.keep hb.size (Agree.of_below hb) (fun _ hb hs => ⟨hs, hb⟩)⟩
theorem ints_shape {S : Nat → Prop} {w : World} {v : Value} {xs : List Int} (h : IntsAt S w v xs) : ∃ A c, v = .slice A xs.length c := by
  obtain ⟨A, c, rfl, _⟩ := h
  exact ⟨A, c, rfl⟩
theorem nd_cells {S : Nat → Prop} {w : World} {A : Option Addr} {c : Nat} {xs : List Nd} (h : NdsAt S w (.slice A xs.length c) xs) {j : Nat} (hj : j < xs.length) :
    ∃ b o A2 c2 A3 c3, A = some ⟨b, o, none⟩ ∧ S b ∧ b < w.heap.size ∧ NdIn S w xs[j] A2 c2 A3 c3 ∧ w.cell? ⟨b, o + j * 4, none⟩ = some (.bool xs[j].leaf) ∧ w.cell? ⟨b, o + j * 4 + 1, none⟩ = some (.int .i64 xs[j].fact) ∧ w.cell? ⟨b, o + j * 4 + 2, none⟩ = some (.slice A2 xs[j].cuts.length c2) ∧ w.cell? ⟨b, o + j * 4 + 3, none⟩ = some (.slice A3 xs[j].kids.length c3) := by
  obtain ⟨A', c', he, _, h⟩ := h
  simp only [Value.slice.injEq] at he
  obtain ⟨rfl, _, _⟩ := he
  obtain ⟨b, o, rfl, hS, hb, hc⟩ := h.2 (by omega)
  obtain ⟨cs, _, ⟨v2, v3, rfl, h1, h2, h3⟩, hcc⟩ := hc j xs[j] (List.getElem?_eq_getElem hj)
  obtain ⟨A2, c2, rfl⟩ := ints_shape h2
  obtain ⟨A3, c3, rfl⟩ := ints_shape h3
  exact ⟨b, o, A2, c2, A3, c3, rfl, hS, hb, ⟨h1, h2, h3⟩, hcc 0 _ rfl, hcc 1 _ rfl, hcc 2 _ rfl, hcc 3 _ rfl⟩
/-- What the callee is to answer at each number. -/
def AskI104 (p1 : Nat) (p : Int → Bool) (ks : List Int) (w : World) : Prop :=
  ∀ (k : Int) (w' : World), k ∈ ks → Below w.heap.size w w' → Calls Tryz.prog 104 #[.int .i64 k, .pointer (some ⟨p1, 0, none⟩)] w' (BoolE (p k) w')
set_option maxRecDepth 100000 in
set_option maxHeartbeats 2000000 in
theorem idxInt104 (p1 : Nat) (S : Nat → Prop) (p : Int → Bool) (ks : List Int) (A : Option Addr) (c : Nat) (w : World) (hr : IntsAt S w (.slice A ks.length c) ks) (ha : AskI104 p1 p ks w) :
    Calls Tryz.prog 62 #[.slice A ks.length c, .func (Fn.func 104) #[] #[.pointer (some ⟨p1, 0, none⟩)]] w fun e w' => e = .returned (.int .i64 (idxI p ks)) ∧ Below w.heap.size w w' := by
  have hn := SliceAt.len hr
  unfold N44 at hn
  have HR := Lib.hid hr
  have HA := Lib.hid ha
  clear hr ha
  go_enter Tryz.func62, Tryz.ntmps62
  go_wp2_with fail
  go_loopw [5, 8] (fun _ v wr => ∃ j : Nat, j ≤ ks.length ∧ v = .int .i64 j ∧ Hid (∀ x ∈ ks.take j, p x = false) ∧ Hid (Below w.heap.size w wr)) (fun _ v _ => ks.length - (intOf v).toNat)
  case atStart => exact ⟨0, Nat.zero_le _, rfl, Lib.hid (fun x h => by simp at h), Lib.hid (Below.refl _ _)⟩
  case round =>
    obtain ⟨j, hj, rfl, HN, HB⟩ := hrel
    by_cases hlt : j < ks.length
    · obtain ⟨b, o, rfl, hSb, hb, k0, ki⟩ := int_cell (HR.out.keep HB.out.size (Agree.of_below HB.out) (fun _ hb hs => (⟨hs, hb⟩ : S _ ∧ _ < w.heap.size))) hlt
      have hmem : ks[j] ∈ ks := List.getElem_mem hlt
      have HF := Lib.hid (List.getElem?_eq_getElem hlt)
      generalize ks[j] = k at *
      have hjs : (j : Int) < (ks.length : Int) := by omega
      go_wp2_with fail
      refine (HA.out k wr hmem HB.out).mono ?_
      rintro e w2 ⟨rfl, hb2⟩
      have HB2 := Lib.hid (bthen HB.out hb2)
      clear HB hb2 k0
      cases hp : p k
      · have HP := Lib.hid hp
        clear hp
        go_wp2_with fail
        go_roundw
        case rel => exact ⟨j + 1, by omega, by go_num, Lib.hid (nofirst_snoc HF.out HP.out HN.out), HB2⟩
        case measure => simp [intOf]; omega
      · have HP := Lib.hid hp
        clear hp
        go_wp2_with fail
        go_ret
        exact ⟨by rw [idxI_some HF.out HP.out HN.out]; rfl, HB2.out⟩
    · obtain rfl : j = ks.length := by omega
      have HI := Lib.hid (idxI_none (p := p) (xs := ks) (by have := HN.out; rw [List.take_length] at this; exact this))
      go_wp2_with fail
      go_ret
      exact ⟨by rw [HI.out]; rfl, HB.out⟩
/-- What the callee is to answer at each number. -/
def AskI63 (p1 : Nat) (p : Int → Bool) (ks : List Int) (w : World) : Prop :=
  ∀ (k : Int) (w' : World), k ∈ ks → Below w.heap.size w w' → Calls Tryz.prog 63 #[.int .i64 k, .pointer (some ⟨p1, 0, none⟩)] w' (BoolE (p k) w')
set_option maxRecDepth 100000 in
set_option maxHeartbeats 2000000 in
theorem idxInt63 (p1 : Nat) (S : Nat → Prop) (p : Int → Bool) (ks : List Int) (A : Option Addr) (c : Nat) (w : World) (hr : IntsAt S w (.slice A ks.length c) ks) (ha : AskI63 p1 p ks w) :
    Calls Tryz.prog 62 #[.slice A ks.length c, .func (Fn.func 63) #[] #[.pointer (some ⟨p1, 0, none⟩)]] w fun e w' => e = .returned (.int .i64 (idxI p ks)) ∧ Below w.heap.size w w' := by
  have hn := SliceAt.len hr
  unfold N44 at hn
  have HR := Lib.hid hr
  have HA := Lib.hid ha
  clear hr ha
  go_enter Tryz.func62, Tryz.ntmps62
  go_wp2_with fail
  go_loopw [5, 8] (fun _ v wr => ∃ j : Nat, j ≤ ks.length ∧ v = .int .i64 j ∧ Hid (∀ x ∈ ks.take j, p x = false) ∧ Hid (Below w.heap.size w wr)) (fun _ v _ => ks.length - (intOf v).toNat)
  case atStart => exact ⟨0, Nat.zero_le _, rfl, Lib.hid (fun x h => by simp at h), Lib.hid (Below.refl _ _)⟩
  case round =>
    obtain ⟨j, hj, rfl, HN, HB⟩ := hrel
    by_cases hlt : j < ks.length
    · obtain ⟨b, o, rfl, hSb, hb, k0, ki⟩ := int_cell (HR.out.keep HB.out.size (Agree.of_below HB.out) (fun _ hb hs => (⟨hs, hb⟩ : S _ ∧ _ < w.heap.size))) hlt
      have hmem : ks[j] ∈ ks := List.getElem_mem hlt
      have HF := Lib.hid (List.getElem?_eq_getElem hlt)
      generalize ks[j] = k at *
      have hjs : (j : Int) < (ks.length : Int) := by omega
      go_wp2_with fail
      refine (HA.out k wr hmem HB.out).mono ?_
      rintro e w2 ⟨rfl, hb2⟩
      have HB2 := Lib.hid (bthen HB.out hb2)
      clear HB hb2 k0
      cases hp : p k
      · have HP := Lib.hid hp
        clear hp
        go_wp2_with fail
        go_roundw
        case rel => exact ⟨j + 1, by omega, by go_num, Lib.hid (nofirst_snoc HF.out HP.out HN.out), HB2⟩
        case measure => simp [intOf]; omega
      · have HP := Lib.hid hp
        clear hp
        go_wp2_with fail
        go_ret
        exact ⟨by rw [idxI_some HF.out HP.out HN.out]; rfl, HB2.out⟩
    · obtain rfl : j = ks.length := by omega
      have HI := Lib.hid (idxI_none (p := p) (xs := ks) (by have := HN.out; rw [List.take_length] at this; exact this))
      go_wp2_with fail
      go_ret
      exact ⟨by rw [HI.out]; rfl, HB.out⟩
/-- The kid for a value. -/
def nextI (x : Nd) (v : Int) : Int := if idxI (fun c => decide (v < c)) x.cuts < 0 then (x.kids.length : Int) - 1 else idxI (fun c => decide (v < c)) x.cuts
set_option maxRecDepth 100000 in
set_option maxHeartbeats 1000000 in
theorem next1_any (k v : Int) (b : Nat) (w : World) (hv : w.cell? ⟨b, 0, none⟩ = some (.int .i64 v)) :
    Calls Tryz.prog 104 #[.int .i64 k, .pointer (some ⟨b, 0, none⟩)] w (BoolE (decide (v < k)) w) := by
  have hl := cell_lt hv
  go_enter Tryz.func104, Tryz.ntmps104
  go_wp2_with fail
  go_ret
  exact ⟨rfl, Below.refl _ _⟩
set_option maxRecDepth 100000 in
set_option maxHeartbeats 1000000 in
theorem dnext_any (S : Nat → Prop) (x : Nd) (A2 : Option Addr) (c2 : Nat) (A3 : Option Addr) (c3 : Nat) (v : Int) (w : World) (h : NdIn S w x A2 c2 A3 c3) :
    Calls Tryz.prog 57 #[ndV x A2 c2 A3 c3, .int .i64 v] w fun e w' => e = .returned (.int .i64 (nextI x v)) ∧ Below w.heap.size w w' := by
  have hk := SliceAt.len h.kids
  unfold N44 at hk
  have H := Lib.hid h
  clear h
  go_enter Tryz.func57, Tryz.ntmps57
  go_wp2_with fail
  have hb0 : Below w.heap.size w ((w.alloc (.cells #[.bool x.leaf, .int .i64 x.fact, .slice A2 x.cuts.length c2, .slice A3 x.kids.length c3] 55)).alloc (.cells #[.int .i64 v] 3)) := ((Below.refl _ _).alloc (Nat.le_refl _) _).alloc (by simp) _
  have b1 := old_ (new_ w (.cells #[.bool x.leaf, .int .i64 x.fact, .slice A2 x.cuts.length c2, .slice A3 x.kids.length c3] 55)) (o := .cells #[.int .i64 v] 3)
  have b2 := new_ (w.alloc (.cells #[.bool x.leaf, .int .i64 x.fact, .slice A2 x.cuts.length c2, .slice A3 x.kids.length c3] 55)) (.cells #[.int .i64 v] 3)
  have hz : (w.alloc (.cells #[.bool x.leaf, .int .i64 x.fact, .slice A2 x.cuts.length c2, .slice A3 x.kids.length c3] 55)).heap.size = w.heap.size + 1 := by simp
  rw [hz] at b2
  clear hz
  generalize ((w.alloc (.cells #[.bool x.leaf, .int .i64 x.fact, .slice A2 x.cuts.length c2, .slice A3 x.kids.length c3] 55)).alloc (.cells #[.int .i64 v] 3)) = w0 at *
  obtain ⟨v0, _⟩ := one_ b2
  have lv := cell_lt v0
  refine (idxInt104 (w.heap.size + 1) _ (fun c => decide (v < c)) x.cuts A2 c2 w0 (H.out.keep hb0).cuts (fun k w' _ hb' => next1_any k v _ w' ((hb'.cell (p := ⟨w.heap.size + 1, 0, none⟩) lv).trans v0))).mono ?_
  rintro e w1 ⟨rfl, hb1⟩
  have HB := Lib.hid (bthen hb0 hb1)
  obtain ⟨s0, s1, s2, s3, _⟩ := four_ (below_ hb1 b1)
  have hlt := blt_ (below_ hb1 b1)
  clear hb0 hb1 b1 b2 v0 lv
  by_cases hi : idxI (fun c => decide (v < c)) x.cuts < 0
  · have HV := Lib.hid (show nextI x v = (x.kids.length : Int) - 1 by simp [nextI, hi])
    go_wp2_with fail
    go_ret
    exact ⟨by rw [HV.out]; rfl, HB.out⟩
  · have HV := Lib.hid (show nextI x v = idxI (fun c => decide (v < c)) x.cuts by simp only [nextI, if_neg hi])
    have hi' : decide (idxI (fun c => decide (v < c)) x.cuts < 0) = false := decide_eq_false hi
    generalize idxI (fun c => decide (v < c)) x.cuts = r at *
    go_wp2_with fail
    go_ret
    exact ⟨by rw [HV.out]; rfl, HB.out⟩
end Go.Proofs.YtfajbcjcigajfaaGreatDoor
namespace Go.Proofs.YtfajbcjcigajfaaGreatDoor
open Go.RowKit

/-- The way from a node on, of at most n steps. -/
def walkG (g : List Nd) (c : List Int) : Nat → Int → Bool
  | 0, _ => false
  | n + 1, at' =>
    if at' < 0 ∨ (g.length : Int) ≤ at' then false
    else
      let x := g.getD at'.toNat ⟨false, 0, [], []⟩
      if x.kids.length = 0 then x.leaf
      else if x.fact < 0 ∨ (c.length : Int) ≤ x.fact then false
      else if (x.kids.length : Int) ≤ nextI x (c.getD x.fact.toNat 0) then false
      else walkG g c n (x.kids.getD (nextI x (c.getD x.fact.toNat 0)).toNat 0)
def holdsG (g : List Nd) (c : List Int) : Bool := walkG g c g.length 0
theorem nextI_ge {x : Nd} {v : Int} (h : 0 < x.kids.length) : 0 ≤ nextI x v := by
  unfold nextI
  split
  · omega
  · omega
set_option maxRecDepth 100000 in
set_option maxHeartbeats 4000000 in
theorem diagHolds_any (S SC : Nat → Prop) (g : List Nd) (cs : List Int) (v vc : Value) (w : World) (hg : NdsAt S w v g) (hc : IntsAt SC w vc cs) :
    Calls Tryz.prog 17 #[.agg #[v], vc] w (BoolE (holdsG g cs) w) := by
  obtain ⟨A, c, rfl, _⟩ := id hg
  obtain ⟨AC, cc, rfl, _⟩ := id hc
  have hl := SliceAt.len hg
  have hl2 := SliceAt.len hc
  unfold N44 at hl hl2
  have HG := Lib.hid hg
  have HC := Lib.hid hc
  clear hg hc
  go_enter Tryz.func17, Tryz.ntmps17
  go_wp2_with fail
  go_loopw [5, 11] (fun va v wr => ∃ (j : Nat) (a : Int), j ≤ g.length ∧ v = .int .i64 j ∧ va = .int .i64 a ∧ I64 a ∧ Hid (holdsG g cs = walkG g cs (g.length - j) a) ∧ Hid (Below w.heap.size w wr) ∧ Hid (wr.heap[w.heap.size]? = some (.cells #[.slice A g.length c] 34 (0, 0)))) (fun _ v _ => g.length - (intOf v).toNat)
  case atStart => exact ⟨0, 0, Nat.zero_le _, rfl, rfl, i64_lit (by simp), Lib.hid rfl, Lib.hid (box_below _ _), Lib.hid (new_ _ _)⟩
  case round =>
    obtain ⟨j, a, hj, rfl, rfl, ha, HV, HB, HD⟩ := hrel
    obtain ⟨d0, _⟩ := one_ HD.out
    have ld := blt_ HD.out
    unfold I64 at ha
    by_cases hlt : j < g.length
    · have HW := Lib.hid (show holdsG g cs = walkG g cs (g.length - j - 1 + 1) a by rw [HV.out]; congr 1; omega)
      clear HV
      by_cases ha0 : a < 0
      · have HF := Lib.hid (show holdsG g cs = false by rw [HW.out, walkG, if_pos (.inl ha0)])
        go_wp2_with fail
        go_ret
        exact ⟨by rw [HF.out]; rfl, HB.out⟩
      · have ha0' : decide (a < 0) = false := decide_eq_false ha0
        by_cases ha1 : (g.length : Int) ≤ a
        · have HF := Lib.hid (show holdsG g cs = false by rw [HW.out, walkG, if_pos (.inr ha1)])
          go_wp2_with fail
          go_ret
          exact ⟨by rw [HF.out]; rfl, HB.out⟩
        · have ha1' : decide ((g.length : Int) ≤ a) = false := decide_eq_false ha1
          obtain ⟨i, rfl⟩ : ∃ i : Nat, a = i := ⟨a.toNat, by omega⟩
          have hi : i < g.length := by omega
          obtain ⟨b, o, A2, c2, A3, c3, rfl, hSb, hb, hN, e0, e1, e2, e3⟩ := nd_cells (HG.out.keep HB.out.size (Agree.of_below HB.out) (fun _ hb hs => (⟨hs, hb⟩ : S _ ∧ _ < w.heap.size))) hi
          have HX := Lib.hid (show holdsG g cs = if g[i].kids.length = 0 then g[i].leaf else if g[i].fact < 0 ∨ (cs.length : Int) ≤ g[i].fact then false else if (g[i].kids.length : Int) ≤ nextI g[i] (cs.getD g[i].fact.toNat 0) then false else walkG g cs (g.length - j - 1) (g[i].kids.getD (nextI g[i] (cs.getD g[i].fact.toNat 0)).toNat 0) by
            rw [HW.out, walkG, if_neg (by omega)]
            simp only [Int.toNat_natCast, List.getD_eq_getElem?_getD, List.getElem?_eq_getElem hi, Option.getD_some])
          clear HW
          generalize g[i] = x at *
          have HN := Lib.hid hN
          have hxf := hN.fact
          have hkl := SliceAt.len hN.kids
          unfold N44 at hkl
          unfold I64 at hxf
          clear hN
          by_cases hk : x.kids.length = 0
          · have HF := Lib.hid (show holdsG g cs = x.leaf by rw [HX.out, if_pos hk])
            have hk' : ((x.kids.length : Int) == 0) = true := by simp [hk]
            go_wp2_with fail
            go_ret
            exact ⟨by rw [HF.out]; rfl, bthen HB.out (box_below _ _)⟩
          · have hk' : ((x.kids.length : Int) == 0) = false := by rw [beq_eq_false_iff_ne]; omega
            by_cases hf0 : x.fact < 0
            · have HF := Lib.hid (show holdsG g cs = false by rw [HX.out, if_neg hk, if_pos (.inl hf0)])
              go_wp2_with fail
              go_ret
              exact ⟨by rw [HF.out]; rfl, bthen HB.out (box_below _ _)⟩
            · have hf0' : decide (x.fact < 0) = false := decide_eq_false hf0
              by_cases hf1 : (cs.length : Int) ≤ x.fact
              · have HF := Lib.hid (show holdsG g cs = false by rw [HX.out, if_neg hk, if_pos (.inr hf1)])
                go_wp2_with fail
                go_ret
                exact ⟨by rw [HF.out]; rfl, bthen HB.out (box_below _ _)⟩
              · have hf1' : decide ((cs.length : Int) ≤ x.fact) = false := decide_eq_false hf1
                have HX2 := Lib.hid (show holdsG g cs = if (x.kids.length : Int) ≤ nextI x (cs.getD x.fact.toNat 0) then false else walkG g cs (g.length - j - 1) (x.kids.getD (nextI x (cs.getD x.fact.toNat 0)).toNat 0) by rw [HX.out, if_neg hk, if_neg (by omega)])
                clear HX
                obtain ⟨fi, hfi⟩ : ∃ fi : Nat, x.fact = fi := ⟨x.fact.toNat, by omega⟩
                have hfl : fi < cs.length := by omega
                obtain ⟨bc, oc, rfl, hSc, hbc, k0, ki⟩ := int_cell (HC.out.keep HB.out.size (Agree.of_below HB.out) (fun _ hb hs => (⟨hs, hb⟩ : SC _ ∧ _ < w.heap.size))) hfl
                have HY := Lib.hid (show cs.getD x.fact.toNat 0 = cs[fi] by rw [hfi]; simp [hfl])
                generalize cs[fi] = y at *
                have hfl' : (fi : Int) < (cs.length : Int) := by omega
                have HX3 := Lib.hid (show holdsG g cs = if (x.kids.length : Int) ≤ nextI x y then false else walkG g cs (g.length - j - 1) (x.kids.getD (nextI x y).toNat 0) by rw [HX2.out, HY.out])
                clear HX2 HY
                obtain ⟨xl, xf, xc, xk⟩ := x
                dsimp only at *
                subst hfi
                have hng := Lib.hid (nextI_ge (x := ⟨xl, (fi : Int), xc, xk⟩) (v := y) (by dsimp only; omega))
                go_upto_region 11 with fail
                go_cut [7, 11] (fun v7 v11 wx => v11 = .int .i64 j ∧ v7 = .int .i64 (nextI ⟨xl, (fi : Int), xc, xk⟩ y) ∧ Hid (Below w.heap.size w wx) ∧ Hid (wx.heap[wr.heap.size]? = some (.cells #[.bool xl, .int .i64 fi, .slice A2 xc.length c2, .slice A3 xk.length c3] 55 (0, 0))) ∧ Hid (Below wr.heap.size wr wx))
                case first =>
                  go_region_with (first | (go_at_call 57; refine (dnext_any _ ⟨xl, (fi : Int), xc, xk⟩ A2 c2 A3 c3 y _ (HN.out.keep ((box_below wr _).drew))).mono ?_; rintro e w2 ⟨rfl, hb2⟩; have HB2 := Lib.hid (bthen ((box_below wr _).drew) hb2); have HF2 := Lib.hid (below_ hb2 (new_ wr _)); clear hb2))
                  all_goals (go_wp2_with fail; go_meet; exact ⟨rfl, rfl, Lib.hid (bthen HB.out HB2.out), HF2, HB2⟩)
                case rest =>
                  obtain ⟨rfl, rfl, HB2, HF2, HB3⟩ := hcut
                  obtain ⟨s0, s1, s2, s3, _⟩ := four_ HF2.out
                  have ls := blt_ HF2.out
                  have HK := Lib.hid (HN.out.keep HB3.out).kids
                  have HD2 := Lib.hid (below_ HB3.out HD.out)
                  have hng0 := hng.out
                  clear HB3 HN hng d0 ld HD HF2
                  generalize nextI ⟨xl, (fi : Int), xc, xk⟩ y = q at *
                  by_cases hq : (xk.length : Int) ≤ q
                  · have HF := Lib.hid (show holdsG g cs = false by rw [HX3.out, if_pos hq])
                    go_wp2_with fail
                    go_ret
                    exact ⟨by rw [HF.out]; rfl, HB2.out⟩
                  · have hq' : decide ((xk.length : Int) ≤ q) = false := decide_eq_false hq
                    have HF := Lib.hid (show holdsG g cs = walkG g cs (g.length - j - 1) (xk.getD q.toNat 0) by rw [HX3.out, if_neg hq])
                    clear HX3
                    obtain ⟨qi, rfl⟩ : ∃ qi : Nat, q = qi := ⟨q.toNat, by omega⟩
                    have hql : qi < xk.length := by omega
                    obtain ⟨bk, ok, rfl, _, hbk, kk, kki⟩ := int_cell HK.out hql
                    have HG2 := Lib.hid (show holdsG g cs = walkG g cs (g.length - (j + 1)) xk[qi] by
                      rw [HF.out, Int.toNat_natCast, List.getD_eq_getElem?_getD, List.getElem?_eq_getElem hql]
                      rfl)
                    clear HF
                    generalize xk[qi] = z at *
                    go_wp2_with fail
                    go_roundw
                    case rel => exact ⟨j + 1, z, by omega, by go_num, rfl, kki, HG2, HB2, HD2⟩
                    case measure => simp [intOf]; omega
    · obtain rfl : j = g.length := by omega
      have HF := Lib.hid (show holdsG g cs = false by rw [HV.out, Nat.sub_self]; rfl)
      go_wp2_with fail
      go_ret
      exact ⟨by rw [HF.out]; rfl, HB.out⟩
end Go.Proofs.YtfajbcjcigajfaaGreatDoor
namespace Go.Proofs.YtfajbcjcigajfaaGreatDoor
open Go.RowKit

/-- The row of a list of ints that is not empty. -/
theorem ints_row {S : Nat → Prop} {w : World} {A : Option Addr} {c : Nat} {xs : List Int} (h : IntsAt S w (.slice A xs.length c) xs) (hp : 0 < xs.length) :
    ∃ b o, A = some ⟨b, o, none⟩ ∧ S b ∧ b < w.heap.size ∧ xs.length ≤ c ∧ ∀ j, j < xs.length → w.cell? ⟨b, o + j, none⟩ = some (.int .i64 (xs.getD j 0)) := by
  obtain ⟨A', c', he, hc', h⟩ := h
  simp only [Value.slice.injEq] at he
  obtain ⟨rfl, _, rfl⟩ := he
  obtain ⟨b, o, rfl, hS, hb, hc⟩ := h.2 hp
  refine ⟨b, o, rfl, hS, hb, hc', fun j hj => ?_⟩
  obtain ⟨cs, _, ⟨rfl, hi⟩, hcc⟩ := hc j xs[j] (List.getElem?_eq_getElem hj)
  rw [List.getD_eq_getElem?_getD, List.getElem?_eq_getElem hj]
  simpa using hcc 0 _ rfl
theorem eqInts_any (S S2 : Nat → Prop) (xs ys : List Int) (A B : Option Addr) (c d : Nat) (w : World) (hx : IntsAt S w (.slice A xs.length c) xs) (hy : IntsAt S2 w (.slice B ys.length d) ys) :
    Calls Tryz.prog 82 #[.slice A xs.length c, .slice B ys.length d] w (BoolE (xs == ys) w) := by
  have h1 := SliceAt.len hx
  have h2 := SliceAt.len hy
  unfold N44 at h1 h2
  by_cases hl : xs.length = ys.length
  · by_cases h0 : xs.length = 0
    · have h0' : ys.length = 0 := by omega
      have e1 := List.eq_nil_of_length_eq_zero h0
      have e2 := List.eq_nil_of_length_eq_zero h0'
      subst e1 e2
      refine (Tryz.slices_Equal_int_empty A B c _ d w (by simp)).mono ?_
      rintro e w' ⟨rfl, rfl⟩
      exact ⟨rfl, Below.refl _ _⟩
    · obtain ⟨b1, o1, rfl, _, _, _, k1⟩ := ints_row hx (by omega)
      obtain ⟨b2, o2, rfl, _, _, _, k2⟩ := ints_row hy (by omega)
      refine (Tryz.slices_Equal_int b1 o1 xs.length c b2 o2 ys.length d xs ys w (Nat.le_refl _) (Nat.le_refl _) (by omega) (by omega) k1 k2).mono ?_
      rintro e w' ⟨rfl, q, rfl⟩
      rw [List.take_length, List.take_length]
      exact ⟨rfl, ⟨rfl, rfl, rfl, Nat.le_refl _, fun _ _ => rfl⟩⟩
  · refine (Tryz.slices_Equal_int_lens A B _ c _ d w hl).mono ?_
    rintro e w' ⟨rfl, rfl⟩
    refine ⟨?_, Below.refl _ _⟩
    have : (xs == ys) = false := by
      rw [beq_eq_false_iff_ne]
      rintro rfl
      exact hl rfl
    rw [this]
def sameN (x y : Nd) : Bool := x.fact == y.fact && x.leaf == y.leaf && x.cuts == y.cuts && x.kids == y.kids
theorem sameN_iff (x y : Nd) : sameN x y = true ↔ x = y := by
  obtain ⟨a, b, c, d⟩ := x
  obtain ⟨a', b', c', d'⟩ := y
  simp only [sameN, Bool.and_eq_true, beq_iff_eq, Nd.mk.injEq]
  exact ⟨fun ⟨⟨⟨h1, h2⟩, h3⟩, h4⟩ => ⟨h2, h1, h3, h4⟩, fun ⟨h2, h1, h3, h4⟩ => ⟨⟨⟨h1, h2⟩, h3⟩, h4⟩⟩
set_option maxRecDepth 100000 in
set_option maxHeartbeats 2000000 in
theorem same1_any (S S2 : Nat → Prop) (x y : Nd) (A2 : Option Addr) (c2 : Nat) (A3 : Option Addr) (c3 : Nat) (B2 : Option Addr) (d2 : Nat) (B3 : Option Addr) (d3 : Nat) (w : World) (hx : NdIn S w x A2 c2 A3 c3) (hy : NdIn S2 w y B2 d2 B3 d3) :
    Calls Tryz.prog 81 #[ndV x A2 c2 A3 c3, ndV y B2 d2 B3 d3] w (BoolE (sameN x y) w) := by
  have HX := Lib.hid hx
  have HY := Lib.hid hy
  clear hx hy
  cases hf : x.fact == y.fact
  · have HV := Lib.hid (show sameN x y = false by simp [sameN, hf])
    go_enter Tryz.func81, Tryz.ntmps81
    go_wp2_with fail
    go_ret
    exact ⟨by rw [HV.out]; rfl, ((Below.refl _ _).alloc (Nat.le_refl _) _).alloc (by simp) _⟩
  · cases hl : x.leaf == y.leaf
    · have HV := Lib.hid (show sameN x y = false by simp [sameN, hf, hl])
      go_enter Tryz.func81, Tryz.ntmps81
      go_wp2_with fail
      go_ret
      exact ⟨by rw [HV.out]; rfl, ((Below.refl _ _).alloc (Nat.le_refl _) _).alloc (by simp) _⟩
    · have HV := Lib.hid (show sameN x y = (x.cuts == y.cuts && x.kids == y.kids) by simp [sameN, hf, hl])
      go_enter Tryz.func81, Tryz.ntmps81
      go_wp2_with fail
      have hb0 : Below w.heap.size w ((w.alloc (.cells #[.bool x.leaf, .int .i64 x.fact, .slice A2 x.cuts.length c2, .slice A3 x.kids.length c3] 55)).alloc (.cells #[.bool y.leaf, .int .i64 y.fact, .slice B2 y.cuts.length d2, .slice B3 y.kids.length d3] 55)) := ((Below.refl _ _).alloc (Nat.le_refl _) _).alloc (by simp) _
      have b1 := old_ (new_ w (.cells #[.bool x.leaf, .int .i64 x.fact, .slice A2 x.cuts.length c2, .slice A3 x.kids.length c3] 55)) (o := .cells #[.bool y.leaf, .int .i64 y.fact, .slice B2 y.cuts.length d2, .slice B3 y.kids.length d3] 55)
      have b2 := new_ (w.alloc (.cells #[.bool x.leaf, .int .i64 x.fact, .slice A2 x.cuts.length c2, .slice A3 x.kids.length c3] 55)) (.cells #[.bool y.leaf, .int .i64 y.fact, .slice B2 y.cuts.length d2, .slice B3 y.kids.length d3] 55)
      have hz : (w.alloc (.cells #[.bool x.leaf, .int .i64 x.fact, .slice A2 x.cuts.length c2, .slice A3 x.kids.length c3] 55)).heap.size = w.heap.size + 1 := by simp
      rw [hz] at b2
      clear hz
      generalize ((w.alloc (.cells #[.bool x.leaf, .int .i64 x.fact, .slice A2 x.cuts.length c2, .slice A3 x.kids.length c3] 55)).alloc (.cells #[.bool y.leaf, .int .i64 y.fact, .slice B2 y.cuts.length d2, .slice B3 y.kids.length d3] 55)) = w0 at *
      refine (eqInts_any _ _ x.cuts y.cuts A2 B2 c2 d2 w0 (HX.out.keep hb0).cuts (HY.out.keep hb0).cuts).mono ?_
      rintro e w1 ⟨rfl, hb1⟩
      have HB := Lib.hid (bthen hb0 hb1)
      have C1 := Lib.hid (below_ hb1 b1)
      have C2 := Lib.hid (below_ hb1 b2)
      obtain ⟨s0, s1, s2, s3, _⟩ := four_ C1.out
      obtain ⟨t0, t1, t2, t3, _⟩ := four_ C2.out
      have hlt := blt_ C1.out
      have hlt2 := blt_ C2.out
      clear hb0 hb1 b1 b2
      cases hc : x.cuts == y.cuts
      · have HV2 := Lib.hid (show sameN x y = false by rw [HV.out, hc]; rfl)
        clear hc
        go_wp2_with fail
        go_ret
        exact ⟨by rw [HV2.out]; rfl, HB.out⟩
      · have HV2 := Lib.hid (show sameN x y = (x.kids == y.kids) by rw [HV.out, hc]; rfl)
        clear hc
        go_wp2_with fail
        refine (eqInts_any _ _ x.kids y.kids A3 B3 c3 d3 w1 (HX.out.keep HB.out).kids (HY.out.keep HB.out).kids).mono ?_
        rintro e w2 ⟨rfl, hb2⟩
        have HB2 := Lib.hid (bthen HB.out hb2)
        clear hb2 HB C1 C2 s0 s1 s2 s3 t0 t1 t2 t3
        go_wp2_with fail
        go_ret
        exact ⟨by rw [HV2.out]; rfl, HB2.out⟩
/-- Whether two diagrams are one. -/
def sameG : List Nd → List Nd → Bool
  | [], [] => true
  | x :: xs, y :: ys => sameN x y && sameG xs ys
  | _, _ => false
theorem sameG_iff : ∀ (a b : List Nd), sameG a b = true ↔ a = b
  | [], [] => by simp [sameG]
  | x :: xs, y :: ys => by simp only [sameG, Bool.and_eq_true, sameN_iff, sameG_iff xs ys, List.cons.injEq]
  | [], y :: ys => by simp [sameG]
  | x :: xs, [] => by simp [sameG]
theorem sameG_drop {a b : List Nd} {j : Nat} {x y : Nd} (hx : a[j]? = some x) (hy : b[j]? = some y) (h : sameG a b = sameG (a.drop j) (b.drop j)) : sameG a b = (sameN x y && sameG (a.drop (j + 1)) (b.drop (j + 1))) := by
  rw [h, drop_cons hx, drop_cons hy]; rfl
set_option maxRecDepth 100000 in
set_option maxHeartbeats 2000000 in
theorem same_any (S S2 : Nat → Prop) (a b : List Nd) (v v2 : Value) (w : World) (ha : NdsAt S w v a) (hb : NdsAt S2 w v2 b) :
    Calls Tryz.prog 31 #[.agg #[v], .agg #[v2]] w (BoolE (sameG a b) w) := by
  obtain ⟨A, c, rfl, _⟩ := id ha
  obtain ⟨B, d, rfl, _⟩ := id hb
  have HA := Lib.hid ha
  have HB := Lib.hid hb
  have hl1 := SliceAt.len ha
  have hl2 := SliceAt.len hb
  unfold N44 at hl1 hl2
  have HE : ∀ w0, Below w.heap.size w w0 → Calls Tryz.prog 80 #[.slice A a.length c, .slice B b.length d, .func (Fn.func 81) #[] #[]] w0 (BoolE (sameG a b) w0) := by
    intro w0 hb0
    clear ha hb
    by_cases hl : a.length = b.length
    · have hl' : ((a.length : Int) != (b.length : Int)) = false := by simp [hl]
      have HL := Lib.hid hl
      clear hl
      have HB0 := Lib.hid hb0
      clear hb0
      go_enter Tryz.func80, Tryz.ntmps80
      go_wp2_with fail
      go_loopw [7, 17] (fun _ v wr => ∃ j : Nat, j ≤ a.length ∧ v = .int .i64 j ∧ Hid (sameG a b = sameG (a.drop j) (b.drop j)) ∧ Hid (Below w0.heap.size w0 wr)) (fun _ v _ => a.length - (intOf v).toNat)
      case atStart => exact ⟨0, Nat.zero_le _, rfl, Lib.hid rfl, Lib.hid (Below.refl _ _)⟩
      case round =>
        obtain ⟨j, hj, rfl, HV, HR⟩ := hrel
        by_cases hlt : j < a.length
        · have hlt2 : j < b.length := by have := HL.out; omega
          obtain ⟨b1, o1, A2, c2, A3, c3, rfl, hSb1, hb1, hN1, e0, e1, e2, e3⟩ := nd_cells (HA.out.keep (bthen HB0.out HR.out).size (Agree.of_below (bthen HB0.out HR.out)) (fun _ hb hs => (⟨hs, hb⟩ : S _ ∧ _ < w.heap.size))) hlt
          obtain ⟨b2, o2, B2, d2, B3, d3, rfl, hSb2, hb2, hN2, f0, f1, f2, f3⟩ := nd_cells (HB.out.keep (bthen HB0.out HR.out).size (Agree.of_below (bthen HB0.out HR.out)) (fun _ hb hs => (⟨hs, hb⟩ : S2 _ ∧ _ < w.heap.size))) hlt2
          have HS := Lib.hid (sameG_drop (List.getElem?_eq_getElem hlt) (List.getElem?_eq_getElem hlt2) HV.out)
          clear HV
          generalize a[j] = x at *
          generalize b[j] = y at *
          have H1 := Lib.hid hN1
          have H2 := Lib.hid hN2
          have hjb : (j : Int) < (b.length : Int) := by omega
          clear hN1 hN2
          go_wp2_with fail
          refine (same1_any _ _ x y A2 c2 A3 c3 B2 d2 B3 d3 _ (H1.out.keep (((Below.refl _ _).alloc (Nat.le_refl _) _).alloc (by simp) _)) (H2.out.keep (((Below.refl _ _).alloc (Nat.le_refl _) _).alloc (by simp) _))).mono ?_
          rintro e w1 ⟨rfl, hbb⟩
          have HR2 := Lib.hid (bthen HR.out (bthen (((Below.refl _ _).alloc (Nat.le_refl _) _).alloc (by simp) _) hbb))
          clear hbb HR e0 e1 e2 e3 f0 f1 f2 f3
          cases hs : sameN x y
          · have HF := Lib.hid (show sameG a b = false by rw [HS.out, hs]; rfl)
            clear hs HS
            go_wp2_with fail
            go_ret
            exact ⟨by rw [HF.out]; rfl, HR2.out⟩
          · have HF := Lib.hid (show sameG a b = sameG (a.drop (j + 1)) (b.drop (j + 1)) by rw [HS.out, hs]; rfl)
            clear hs HS
            go_wp2_with fail
            go_roundw
            case rel => exact ⟨j + 1, by omega, by go_num, HF, HR2⟩
            case measure => simp [intOf]; omega
        · obtain rfl : j = a.length := by omega
          have HF := Lib.hid (show sameG a b = true by
            rw [HV.out, List.drop_length, List.drop_eq_nil_of_le (by have := HL.out; omega)]; rfl)
          go_wp2_with fail
          go_ret
          exact ⟨by rw [HF.out]; rfl, HR.out⟩
    · have hl' : ((a.length : Int) != (b.length : Int)) = true := by simp; omega
      have HF := Lib.hid (show sameG a b = false by
        rw [Bool.eq_false_iff]; intro h; rw [sameG_iff] at h; rw [h] at hl; exact hl rfl)
      go_enter Tryz.func80, Tryz.ntmps80
      go_wp2_with fail
      go_ret
      exact ⟨by rw [HF.out]; rfl, Below.refl _ _⟩
  clear ha hb
  go_enter Tryz.func31, Tryz.ntmps31
  go_wp2_with fail
  refine (HE _ (((Below.refl _ _).alloc (Nat.le_refl _) _).alloc (by simp) _)).mono ?_
  rintro e w1 ⟨rfl, hb⟩
  have HB1 := Lib.hid (bthen (((Below.refl w.heap.size w).alloc (Nat.le_refl _) _).alloc (by simp) _) hb)
  clear hb
  go_wp2_with fail
  go_ret
  exact ⟨rfl, HB1.out⟩
end Go.Proofs.YtfajbcjcigajfaaGreatDoor
