/- Part of the proof of a law of customhouselaw26: the texts U1 U2. -/
import Derived.BigQuiet
import Derived.Test.YtfajbcjcigajfaaGreatDoorMF1F2F3
/- The walks of customhouseref26.Equal and customhouseref26.Same. -/
namespace Go.Proofs.YtfajbcjcigajfaaGreatDoor
open Go.RowKit

theorem beq_no {xs ys : List Int} {j : Nat} {a b : Int} (ha : xs[j]? = some a) (hb : ys[j]? = some b) (h : a ≠ b) : (xs == ys) = false := by
  rw [beq_eq_false_iff_ne]
  rintro rfl
  rw [ha] at hb
  exact h (by injection hb)
theorem beq_yes {xs ys : List Int} (hl : xs.length = ys.length) (h : xs.take xs.length = ys.take xs.length) : (xs == ys) = true := by
  rw [List.take_length, hl, List.take_length] at h
  rw [h]; simp
theorem take_step {xs ys : List Int} {j : Nat} {a b : Int} (ha : xs[j]? = some a) (hb : ys[j]? = some b) (h : a = b) (ht : xs.take j = ys.take j) : xs.take (j + 1) = ys.take (j + 1) := by
  rw [take_snoc ha, take_snoc hb, ht, h]
set_option maxRecDepth 100000 in
set_option maxHeartbeats 8000000 in
theorem equal_any (S S2 : Nat → Prop) (x y : Nd) (A2 : Option Addr) (c2 : Nat) (A3 : Option Addr) (c3 : Nat) (B2 : Option Addr) (d2 : Nat) (B3 : Option Addr) (d3 : Nat) (w : World) (hx : NdIn S w x A2 c2 A3 c3) (hy : NdIn S2 w y B2 d2 B3 d3) :
    Calls Tryz.prog 76 #[ndV x A2 c2 A3 c3, ndV y B2 d2 B3 d3] w (BoolE (sameN x y) w) := by
  have hx2 := SliceAt.len hx.cuts
  have hx3 := SliceAt.len hx.kids
  have hy2 := SliceAt.len hy.cuts
  have hy3 := SliceAt.len hy.kids
  unfold N44 at hx2 hx3 hy2 hy3
  have HX := Lib.hid hx
  have HY := Lib.hid hy
  clear hx hy
  cases hf : x.fact == y.fact
  · have hf' : (x.fact != y.fact) = true := by rw [bne, hf]; rfl
    have HV := Lib.hid (show sameN x y = false by simp [sameN, hf])
    go_enter Tryz.func76, Tryz.ntmps76
    go_wp2_with fail
    go_ret
    exact ⟨by rw [HV.out]; rfl, ((Below.refl _ _).alloc (Nat.le_refl _) _).alloc (by simp) _⟩
  · have hf' : (x.fact != y.fact) = false := by rw [bne, hf]; rfl
    cases hl : x.leaf == y.leaf
    · have hl' : (x.leaf != y.leaf) = true := by rw [bne, hl]; rfl
      have HV := Lib.hid (show sameN x y = false by simp [sameN, hl])
      go_enter Tryz.func76, Tryz.ntmps76
      go_wp2_with fail
      go_ret
      exact ⟨by rw [HV.out]; rfl, ((Below.refl _ _).alloc (Nat.le_refl _) _).alloc (by simp) _⟩
    · have hl' : (x.leaf != y.leaf) = false := by rw [bne, hl]; rfl
      by_cases hc : x.cuts.length = y.cuts.length
      · have hc' : ((x.cuts.length : Int) != (y.cuts.length : Int)) = false := by simp [hc]
        by_cases hk : x.kids.length = y.kids.length
        · have hk' : ((x.kids.length : Int) != (y.kids.length : Int)) = false := by simp [hk]
          have HV := Lib.hid (show sameN x y = (x.cuts == y.cuts && x.kids == y.kids) by simp [sameN, hf, hl])
          have HC := Lib.hid hc
          have HK := Lib.hid hk
          have hcq : ((x.cuts.length : Int) == (y.cuts.length : Int)) = true := by simp [hc]
          have hkq : ((x.kids.length : Int) == (y.kids.length : Int)) = true := by simp [hk]
          clear hc hk
          go_enter Tryz.func76, Tryz.ntmps76
          go_wp2_with fail
          have HB0 := Lib.hid (show Below w.heap.size w ((w.alloc (.cells #[.bool x.leaf, .int .i64 x.fact, .slice A2 x.cuts.length c2, .slice A3 x.kids.length c3] 55)).alloc (.cells #[.bool y.leaf, .int .i64 y.fact, .slice B2 y.cuts.length d2, .slice B3 y.kids.length d3] 55)) from ((Below.refl _ _).alloc (Nat.le_refl _) _).alloc (by simp) _)
          have C1 := Lib.hid (show ((w.alloc (.cells #[.bool x.leaf, .int .i64 x.fact, .slice A2 x.cuts.length c2, .slice A3 x.kids.length c3] 55)).alloc (.cells #[.bool y.leaf, .int .i64 y.fact, .slice B2 y.cuts.length d2, .slice B3 y.kids.length d3] 55)).heap[w.heap.size]? = some (.cells #[.bool x.leaf, .int .i64 x.fact, .slice A2 x.cuts.length c2, .slice A3 x.kids.length c3] 55 (0, 0)) from old_ (new_ _ _))
          have C2 := Lib.hid (show ((w.alloc (.cells #[.bool x.leaf, .int .i64 x.fact, .slice A2 x.cuts.length c2, .slice A3 x.kids.length c3] 55)).alloc (.cells #[.bool y.leaf, .int .i64 y.fact, .slice B2 y.cuts.length d2, .slice B3 y.kids.length d3] 55)).heap[w.heap.size + 1]? = some (.cells #[.bool y.leaf, .int .i64 y.fact, .slice B2 y.cuts.length d2, .slice B3 y.kids.length d3] 55 (0, 0)) from by
            have := new_ (w.alloc (.cells #[.bool x.leaf, .int .i64 x.fact, .slice A2 x.cuts.length c2, .slice A3 x.kids.length c3] 55)) (.cells #[.bool y.leaf, .int .i64 y.fact, .slice B2 y.cuts.length d2, .slice B3 y.kids.length d3] 55)
            have hz : (w.alloc (.cells #[.bool x.leaf, .int .i64 x.fact, .slice A2 x.cuts.length c2, .slice A3 x.kids.length c3] 55)).heap.size = w.heap.size + 1 := by simp
            rwa [hz] at this)
          obtain ⟨w0, hw0⟩ : ∃ w0, w0 = ((w.alloc (.cells #[.bool x.leaf, .int .i64 x.fact, .slice A2 x.cuts.length c2, .slice A3 x.kids.length c3] 55)).alloc (.cells #[.bool y.leaf, .int .i64 y.fact, .slice B2 y.cuts.length d2, .slice B3 y.kids.length d3] 55)) := ⟨_, rfl⟩
          rw [← hw0] at HB0 C1 C2 ⊢
          clear hw0
          go_loopw [5] (fun v wr => ∃ j : Nat, j ≤ x.cuts.length ∧ v = .int .i64 j ∧ Hid (x.cuts.take j = y.cuts.take j) ∧ Hid (Below w0.heap.size w0 wr)) (fun v _ => x.cuts.length - (intOf v).toNat)
          case atStart => exact ⟨0, Nat.zero_le _, rfl, Lib.hid (by simp), Lib.hid (Below.refl _ _)⟩
          case round =>
            obtain ⟨j, hj, rfl, HT, HB⟩ := hrel
            obtain ⟨s0, s1, s2, s3, _⟩ := four_ (below_ HB.out C1.out)
            obtain ⟨t0, t1, t2, t3, _⟩ := four_ (below_ HB.out C2.out)
            have hlt0 := blt_ (below_ HB.out C1.out)
            have hlt2 := blt_ (below_ HB.out C2.out)
            by_cases hlt : j < x.cuts.length
            · have hlty : j < y.cuts.length := by have := HC.out; omega
              obtain ⟨b1, o1, rfl, _, hb1, k1, _⟩ := int_cell (HX.out.keep (bthen HB0.out HB.out)).cuts hlt
              obtain ⟨b2, o2, rfl, _, hb2, k2, _⟩ := int_cell (HY.out.keep (bthen HB0.out HB.out)).cuts hlty
              have E1 := Lib.hid (show x.cuts[j]? = some x.cuts[j] from List.getElem?_eq_getElem hlt)
              have E2 := Lib.hid (show y.cuts[j]? = some y.cuts[j] from List.getElem?_eq_getElem hlty)
              have hjs : (j : Int) < (x.cuts.length : Int) := by omega
              have hjy : (j : Int) < (y.cuts.length : Int) := by omega
              generalize x.cuts[j] = a at *
              generalize y.cuts[j] = b at *
              by_cases hab : a = b
              · have hab' : (a != b) = false := by simp [hab]
                have HAB := Lib.hid hab
                clear hab
                go_wp2_with fail
                go_quiet (fail)
                go_wp2_with fail
                go_roundw
                case rel => exact ⟨j + 1, by omega, by go_num, Lib.hid (take_step E1.out E2.out HAB.out HT.out), Lib.hid (bthen HB.out ⟨rfl, rfl, rfl, Nat.le_refl _, fun _ _ => rfl⟩)⟩
                case measure => simp [intOf]; omega
              · have hab' : (a != b) = true := by simp [hab]
                have HV2 := Lib.hid (show sameN x y = false by rw [HV.out, beq_no E1.out E2.out hab]; rfl)
                clear hab
                go_wp2_with fail
                go_quiet (fail)
                go_wp2_with fail
                go_ret
                exact ⟨by rw [HV2.out]; rfl, bthen (bthen HB0.out HB.out) ⟨rfl, rfl, rfl, Nat.le_refl _, fun _ _ => rfl⟩⟩
            · obtain rfl : j = x.cuts.length := by omega
              have HV2 := Lib.hid (show sameN x y = (x.kids == y.kids) by rw [HV.out, beq_yes HC.out HT.out]; rfl)
              have HBC := Lib.hid (bthen HB0.out HB.out)
              have D1 := Lib.hid (below_ HB.out C1.out)
              have D2 := Lib.hid (below_ HB.out C2.out)
              clear HV HT HB0 HB C1 C2
              go_wp2_with fail
              go_loopw [6] (fun v wx => ∃ j : Nat, j ≤ x.kids.length ∧ v = .int .i64 j ∧ Hid (x.kids.take j = y.kids.take j) ∧ Hid (Below wr.heap.size wr wx)) (fun v _ => x.kids.length - (intOf v).toNat)
              case atStart => exact ⟨0, Nat.zero_le _, rfl, Lib.hid (by simp), Lib.hid (Below.refl _ _)⟩
              case round =>
                clear s0 s1 s2 s3 t0 t1 t2 t3 hlt0 hlt2
                obtain ⟨j, hj, rfl, HT, HB⟩ := hrel
                obtain ⟨s0, s1, s2, s3, _⟩ := four_ (below_ HB.out D1.out)
                obtain ⟨t0, t1, t2, t3, _⟩ := four_ (below_ HB.out D2.out)
                have hlt0 := blt_ (below_ HB.out D1.out)
                have hlt2 := blt_ (below_ HB.out D2.out)
                by_cases hlt : j < x.kids.length
                · have hlty : j < y.kids.length := by have := HK.out; omega
                  obtain ⟨b1, o1, rfl, _, hb1, k1, _⟩ := int_cell (HX.out.keep (bthen HBC.out HB.out)).kids hlt
                  obtain ⟨b2, o2, rfl, _, hb2, k2, _⟩ := int_cell (HY.out.keep (bthen HBC.out HB.out)).kids hlty
                  have E1 := Lib.hid (show x.kids[j]? = some x.kids[j] from List.getElem?_eq_getElem hlt)
                  have E2 := Lib.hid (show y.kids[j]? = some y.kids[j] from List.getElem?_eq_getElem hlty)
                  have hjs : (j : Int) < (x.kids.length : Int) := by omega
                  have hjy : (j : Int) < (y.kids.length : Int) := by omega
                  generalize x.kids[j] = a at *
                  generalize y.kids[j] = b at *
                  by_cases hab : a = b
                  · have hab' : (a != b) = false := by simp [hab]
                    have HAB := Lib.hid hab
                    clear hab
                    go_wp2_with fail
                    go_quiet (fail)
                    go_wp2_with fail
                    go_roundw
                    case rel => exact ⟨j + 1, by omega, by go_num, Lib.hid (take_step E1.out E2.out HAB.out HT.out), Lib.hid (bthen HB.out ⟨rfl, rfl, rfl, Nat.le_refl _, fun _ _ => rfl⟩)⟩
                    case measure => simp [intOf]; omega
                  · have hab' : (a != b) = true := by simp [hab]
                    have HV3 := Lib.hid (show sameN x y = false by rw [HV2.out, beq_no E1.out E2.out hab])
                    clear hab
                    go_wp2_with fail
                    go_quiet (fail)
                    go_wp2_with fail
                    go_ret
                    exact ⟨by rw [HV3.out]; rfl, bthen (bthen HBC.out HB.out) ⟨rfl, rfl, rfl, Nat.le_refl _, fun _ _ => rfl⟩⟩
                · obtain rfl : j = x.kids.length := by omega
                  have HV3 := Lib.hid (show sameN x y = true by rw [HV2.out, beq_yes HK.out HT.out])
                  go_wp2_with fail
                  go_ret
                  exact ⟨by rw [HV3.out]; rfl, bthen HBC.out HB.out⟩
        · have hk' : ((x.kids.length : Int) != (y.kids.length : Int)) = true := by simp; omega
          have HV := Lib.hid (show sameN x y = false by
            have : (x.kids == y.kids) = false := by
              rw [beq_eq_false_iff_ne]; intro e; rw [e] at hk; exact hk rfl
            simp [sameN, this])
          have hcq : ((x.cuts.length : Int) == (y.cuts.length : Int)) = true := by simp [hc]
          have hkq : ((x.kids.length : Int) == (y.kids.length : Int)) = false := beq_eq_false_iff_ne.2 (by omega)
          clear hc hk
          go_enter Tryz.func76, Tryz.ntmps76
          go_wp2_with fail
          go_ret
          exact ⟨by rw [HV.out]; rfl, ((Below.refl _ _).alloc (Nat.le_refl _) _).alloc (by simp) _⟩
      · have hc' : ((x.cuts.length : Int) != (y.cuts.length : Int)) = true := by simp; omega
        have HV := Lib.hid (show sameN x y = false by
          have : (x.cuts == y.cuts) = false := by
            rw [beq_eq_false_iff_ne]; intro e; rw [e] at hc; exact hc rfl
          simp [sameN, this])
        have hcq : ((x.cuts.length : Int) == (y.cuts.length : Int)) = false := beq_eq_false_iff_ne.2 (by omega)
        clear hc
        go_enter Tryz.func76, Tryz.ntmps76
        go_wp2_with fail
        go_ret
        exact ⟨by rw [HV.out]; rfl, ((Below.refl _ _).alloc (Nat.le_refl _) _).alloc (by simp) _⟩
end Go.Proofs.YtfajbcjcigajfaaGreatDoor
/- The walk of customhouseref26.Same. -/
namespace Go.Proofs.YtfajbcjcigajfaaGreatDoor
open Go.RowKit

theorem sameG_len {a b : List Nd} (h : a.length ≠ b.length) : sameG a b = false := by
  rw [Bool.eq_false_iff]
  intro e
  exact h (by rw [(sameG_iff a b).1 e])
set_option maxRecDepth 100000 in
set_option maxHeartbeats 8000000 in
theorem refSame_any (S S2 : Nat → Prop) (a b : List Nd) (v v2 : Value) (w : World) (ha : NdsAt S w v a) (hb : NdsAt S2 w v2 b) :
    Calls Tryz.prog 27 #[.agg #[v], .agg #[v2]] w (BoolE (sameG a b) w) := by
  obtain ⟨A, c, rfl, _⟩ := id ha
  obtain ⟨B, d, rfl, _⟩ := id hb
  have HA := Lib.hid ha
  have HB := Lib.hid hb
  have hl1 := SliceAt.len ha
  have hl2 := SliceAt.len hb
  unfold N44 at hl1 hl2
  clear ha hb
  have HB0 := Lib.hid (show Below w.heap.size w ((w.alloc (.cells #[.slice A a.length c] 34)).alloc (.cells #[.slice B b.length d] 34)) from ((Below.refl _ _).alloc (Nat.le_refl _) _).alloc (by simp) _)
  have C1 := Lib.hid (show ((w.alloc (.cells #[.slice A a.length c] 34)).alloc (.cells #[.slice B b.length d] 34)).heap[w.heap.size]? = some (.cells #[.slice A a.length c] 34 (0, 0)) from old_ (new_ _ _))
  have C2 := Lib.hid (show ((w.alloc (.cells #[.slice A a.length c] 34)).alloc (.cells #[.slice B b.length d] 34)).heap[w.heap.size + 1]? = some (.cells #[.slice B b.length d] 34 (0, 0)) from by
    have := new_ (w.alloc (.cells #[.slice A a.length c] 34)) (.cells #[.slice B b.length d] 34)
    have hz : (w.alloc (.cells #[.slice A a.length c] 34)).heap.size = w.heap.size + 1 := by simp
    rwa [hz] at this)
  by_cases hl : a.length = b.length
  · have hl' : ((a.length : Int) != (b.length : Int)) = false := by simp [hl]
    have hlq : ((a.length : Int) == (b.length : Int)) = true := by simp [hl]
    have HL := Lib.hid hl
    clear hl
    go_enter Tryz.func27, Tryz.ntmps27
    go_wp2_with fail
    obtain ⟨w0, hw0⟩ : ∃ w0, w0 = ((w.alloc (.cells #[.slice A a.length c] 34)).alloc (.cells #[.slice B b.length d] 34)) := ⟨_, rfl⟩
    rw [← hw0] at HB0 C1 C2 ⊢
    clear hw0
    go_loopw [5] (fun v wr => ∃ j : Nat, j ≤ a.length ∧ v = .int .i64 j ∧ Hid (sameG a b = sameG (a.drop j) (b.drop j)) ∧ Hid (Below w0.heap.size w0 wr)) (fun v _ => a.length - (intOf v).toNat)
    case atStart => exact ⟨0, Nat.zero_le _, rfl, Lib.hid rfl, Lib.hid (Below.refl _ _)⟩
    case round =>
      obtain ⟨j, hj, rfl, HV, HR⟩ := hrel
      obtain ⟨q0, _⟩ := one_ (below_ HR.out C1.out)
      obtain ⟨q1, _⟩ := one_ (below_ HR.out C2.out)
      have lq0 := blt_ (below_ HR.out C1.out)
      have lq1 := blt_ (below_ HR.out C2.out)
      by_cases hlt : j < a.length
      · have hlt2 : j < b.length := by have := HL.out; omega
        obtain ⟨b1, o1, A2, c2, A3, c3, rfl, hSb1, hb1, hN1, e0, e1, e2, e3⟩ := nd_cells (HA.out.keep (bthen HB0.out HR.out).size (Agree.of_below (bthen HB0.out HR.out)) (fun _ hb hs => (⟨hs, hb⟩ : S _ ∧ _ < w.heap.size))) hlt
        obtain ⟨b2, o2, B2, d2, B3, d3, rfl, hSb2, hb2, hN2, f0, f1, f2, f3⟩ := nd_cells (HB.out.keep (bthen HB0.out HR.out).size (Agree.of_below (bthen HB0.out HR.out)) (fun _ hb hs => (⟨hs, hb⟩ : S2 _ ∧ _ < w.heap.size))) hlt2
        have HS := Lib.hid (sameG_drop (List.getElem?_eq_getElem hlt) (List.getElem?_eq_getElem hlt2) HV.out)
        clear HV
        generalize a[j] = x at *
        generalize b[j] = y at *
        have H1 := Lib.hid hN1
        have H2 := Lib.hid hN2
        have hjb : (j : Int) < (b.length : Int) := by omega
        have hja : (j : Int) < (a.length : Int) := by omega
        clear hN1 hN2
        go_wp2_with fail
        go_region_with (first | (go_at_call 76; refine (equal_any _ _ x y A2 c2 A3 c3 B2 d2 B3 d3 _ (H1.out.keep (Below.refl _ _).drew) (H2.out.keep (Below.refl _ _).drew)).mono ?_; rintro e w1 ⟨rfl, hbb⟩; have HR2 := Lib.hid (bthen HR.out (bthen (Below.refl _ _).drew hbb)); clear hbb))
        all_goals
          clear HR e0 e1 e2 e3 f0 f1 f2 f3 q0 q1 lq0 lq1
          cases hs : sameN x y
          · have HV2 := Lib.hid (show sameG a b = false by rw [HS.out, hs]; rfl)
            clear hs
            go_wp2_with fail
            go_ret
            exact ⟨by rw [HV2.out]; rfl, bthen HB0.out HR2.out⟩
          · have HV2 := Lib.hid (show sameG a b = sameG (a.drop (j + 1)) (b.drop (j + 1)) by rw [HS.out, hs]; rfl)
            clear hs
            go_wp2_with fail
            go_roundw
            case rel => exact ⟨j + 1, by omega, by go_num, HV2, HR2⟩
            case measure => simp [intOf]; omega
      · obtain rfl : j = a.length := by omega
        have HV2 := Lib.hid (show sameG a b = true by
          rw [HV.out, List.drop_length, List.drop_of_length_le (by have := HL.out; omega)]; rfl)
        go_wp2_with fail
        go_ret
        exact ⟨by rw [HV2.out]; rfl, bthen HB0.out HR.out⟩
  · have hl' : ((a.length : Int) != (b.length : Int)) = true := by simp; omega
    have hlq : ((a.length : Int) == (b.length : Int)) = false := beq_eq_false_iff_ne.2 (by omega)
    have HV := Lib.hid (sameG_len hl)
    clear hl
    go_enter Tryz.func27, Tryz.ntmps27
    go_wp2_with fail
    go_ret
    exact ⟨by rw [HV.out]; rfl, HB0.out⟩
end Go.Proofs.YtfajbcjcigajfaaGreatDoor
