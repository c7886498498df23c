/- Part of the proof of a law of customhouselaw26: the texts H2 H3 K1. -/
import Derived.Test.YtfajbcjcigajfaaGreatDoorMF4
namespace Go.Proofs.YtfajbcjcigajfaaGreatDoor
open Go.RowKit

/-- The fact that a node asks; n for a leaf. -/
def askI (n : Nat) (x : Nd) : Int := if x.kids.length = 0 then (n : Int) else x.fact
set_option maxRecDepth 100000 in
set_option maxHeartbeats 1000000 in
theorem ask_any (x : Nd) (A2 : Option Addr) (c2 : Nat) (A3 : Option Addr) (c3 : Nat) (AD : Option Addr) (n cD : Nat) (w : World) :
    Calls Tryz.prog 70 #[ndV x A2 c2 A3 c3, .agg #[.slice AD n cD]] w fun e w' => e = .returned (.int .i64 (askI n x)) ∧ Below w.heap.size w w' := by
  by_cases hk : x.kids.length = 0
  · have hk' : ((x.kids.length : Int) == 0) = true := by simp [hk]
    have HV := Lib.hid (show askI n x = n by simp [askI, hk])
    go_enter Tryz.func70, Tryz.ntmps70
    go_wp2_with fail
    go_ret
    exact ⟨by rw [HV.out]; rfl, ((Below.refl _ _).alloc (Nat.le_refl _) _).alloc (by simp) _⟩
  · have hk' : ((x.kids.length : Int) == 0) = false := by rw [beq_eq_false_iff_ne]; omega
    have HV := Lib.hid (show askI n x = x.fact by simp only [askI, if_neg hk])
    go_enter Tryz.func70, Tryz.ntmps70
    go_wp2_with fail
    go_ret
    exact ⟨by rw [HV.out]; rfl, ((Below.refl _ _).alloc (Nat.le_refl _) _).alloc (by simp) _⟩
/-- Whether a is less than b, of as many values. -/
def lessL : List Int → List Int → Bool
  | x :: a, y :: b => if x = y then lessL a b else decide (x < y)
  | _, _ => false
theorem lessL_step {a b : List Int} {j : Nat} {x y : Int} (hx : a[j]? = some x) (hy : b[j]? = some y) (h : lessL a b = lessL (a.drop j) (b.drop j)) : lessL a b = if x = y then lessL (a.drop (j + 1)) (b.drop (j + 1)) else decide (x < y) := by
  rw [h, drop_cons hx, drop_cons hy]; rfl
theorem lessL_end {a b : List Int} {j : Nat} (h : lessL a b = lessL (a.drop j) (b.drop j)) (hj : ¬ (j < a.length ∧ j < b.length)) : lessL a b = false := by
  rw [h]
  by_cases h1 : j < a.length
  · rw [show b.drop j = [] from List.drop_eq_nil_of_le (by omega)]
    cases a.drop j <;> rfl
  · rw [show a.drop j = [] from List.drop_eq_nil_of_le (by omega)]
    rfl
set_option maxRecDepth 100000 in
set_option maxHeartbeats 2000000 in
theorem less_any (S S2 : Nat → Prop) (a b : List Int) (v v2 : Value) (w : World) (ha : IntsAt S w v a) (hb : IntsAt S2 w v2 b) :
    Calls Tryz.prog 21 #[v, v2] w (BoolE (lessL a b) w) := by
  obtain ⟨A, c, rfl, _⟩ := id ha
  obtain ⟨B, d, rfl, _⟩ := id hb
  have hl1 := SliceAt.len ha
  have hl2 := SliceAt.len hb
  unfold N44 at hl1 hl2
  have HA := Lib.hid ha
  have HB := Lib.hid hb
  clear ha hb
  go_enter Tryz.func21, Tryz.ntmps21
  go_wp2_with fail
  go_loopw [5] (fun v wr => ∃ j : Nat, j ≤ a.length ∧ v = .int .i64 j ∧ Hid (lessL a b = lessL (a.drop j) (b.drop j)) ∧ Hid (Below w.heap.size w wr)) (fun v _ => a.length - (intOf v).toNat)
  case atStart => exact ⟨0, Nat.zero_le _, rfl, Lib.hid rfl, Lib.hid (Below.refl _ _)⟩
  case round =>
    obtain ⟨j, hj, rfl, HV, HR⟩ := hrel
    by_cases hlt : j < a.length
    · have hja : (j : Int) < (a.length : Int) := by omega
      by_cases hlt2 : j < b.length
      · have hjb : (j : Int) < (b.length : Int) := by omega
        obtain ⟨b1, o1, rfl, _, hb1, k1, i1⟩ := int_cell (HA.out.keep HR.out.size (Agree.of_below HR.out) (fun _ hb hs => (⟨hs, hb⟩ : S _ ∧ _ < w.heap.size))) hlt
        obtain ⟨b2, o2, rfl, _, hb2, k2, i2⟩ := int_cell (HB.out.keep HR.out.size (Agree.of_below HR.out) (fun _ hb hs => (⟨hs, hb⟩ : S2 _ ∧ _ < w.heap.size))) hlt2
        have HS := Lib.hid (lessL_step (List.getElem?_eq_getElem hlt) (List.getElem?_eq_getElem hlt2) HV.out)
        clear HV
        generalize a[j] = x at *
        generalize b[j] = y at *
        by_cases hxy : x = y
        · have hxy' : (x != y) = false := by simp [hxy]
          have HF := Lib.hid (show lessL a b = lessL (a.drop (j + 1)) (b.drop (j + 1)) by rw [HS.out, if_pos hxy])
          clear HS hxy
          go_wp2_with fail
          go_quiet (fail)
          go_wp2_with fail
          go_roundw
          case rel => exact ⟨j + 1, by omega, by go_num, HF, Lib.hid (HR.out.trans ⟨rfl, rfl, rfl, Nat.le_refl _, fun _ _ => rfl⟩)⟩
          case measure => simp [intOf]; omega
        · have hxy' : (x != y) = true := by simp [hxy]
          have HF := Lib.hid (show lessL a b = decide (x < y) by rw [HS.out, if_neg hxy])
          clear HS
          go_wp2_with fail
          go_quiet (fail)
          go_wp2_with fail
          go_quiet (fail)
          go_wp2_with fail
          go_ret
          exact ⟨by rw [HF.out]; rfl, HR.out.trans ⟨rfl, rfl, rfl, Nat.le_refl _, fun _ _ => rfl⟩⟩
      · have hjb : decide ((j : Int) < (b.length : Int)) = false := by simp; omega
        have HF := Lib.hid (lessL_end HV.out (by omega))
        go_wp2_with fail
        go_ret
        exact ⟨by rw [HF.out]; rfl, HR.out⟩
    · have hja : decide ((j : Int) < (a.length : Int)) = false := by simp; omega
      have HF := Lib.hid (lessL_end HV.out (by omega))
      go_wp2_with fail
      go_ret
      exact ⟨by rw [HF.out]; rfl, HR.out⟩
set_option maxRecDepth 100000 in
set_option maxHeartbeats 2000000 in
theorem ints_any (S S2 : Nat → Prop) (a b : List Int) (v v2 : Value) (w : World) (ha : IntsAt S w v a) (hb : IntsAt S2 w v2 b) :
    Calls Tryz.prog 28 #[v, v2] w (BoolE (a == b) w) := by
  obtain ⟨A, c, rfl, _⟩ := id ha
  obtain ⟨B, d, rfl, _⟩ := id hb
  have hl1 := SliceAt.len ha
  have hl2 := SliceAt.len hb
  unfold N44 at hl1 hl2
  have HA := Lib.hid ha
  have HB := Lib.hid hb
  clear ha hb
  by_cases hl : a.length = b.length
  · have hl' : ((a.length : Int) != (b.length : Int)) = false := by simp [hl]
    have HL := Lib.hid hl
    clear hl
    go_enter Tryz.func28, Tryz.ntmps28
    go_wp2_with fail
    go_loopw [5] (fun v wr => ∃ j : Nat, j ≤ a.length ∧ v = .int .i64 j ∧ Hid (∀ i, i < j → a[i]? = b[i]?) ∧ Hid (Below w.heap.size w wr)) (fun v _ => a.length - (intOf v).toNat)
    case atStart => exact ⟨0, Nat.zero_le _, rfl, Lib.hid (fun i h => by omega), Lib.hid (Below.refl _ _)⟩
    case round =>
      obtain ⟨j, hj, rfl, HV, HR⟩ := hrel
      by_cases hlt : j < a.length
      · have hlt2 : j < b.length := by have := HL.out; omega
        have hja : (j : Int) < (a.length : Int) := by omega
        have hjb : (j : Int) < (b.length : Int) := by omega
        obtain ⟨b1, o1, rfl, _, hb1, k1, i1⟩ := int_cell (HA.out.keep HR.out.size (Agree.of_below HR.out) (fun _ hb hs => (⟨hs, hb⟩ : S _ ∧ _ < w.heap.size))) hlt
        obtain ⟨b2, o2, rfl, _, hb2, k2, i2⟩ := int_cell (HB.out.keep HR.out.size (Agree.of_below HR.out) (fun _ hb hs => (⟨hs, hb⟩ : S2 _ ∧ _ < w.heap.size))) hlt2
        have HX := Lib.hid (List.getElem?_eq_getElem hlt)
        have HY := Lib.hid (List.getElem?_eq_getElem hlt2)
        generalize a[j] = x at *
        generalize b[j] = y at *
        by_cases hxy : x = y
        · have hxy' : (x != y) = false := by simp [hxy]
          have HF := Lib.hid (show ∀ i, i < j + 1 → a[i]? = b[i]? from fun i hi => by
            by_cases h : i = j
            · rw [h, HX.out, HY.out, hxy]
            · exact HV.out i (by omega))
          clear HV hxy
          go_wp2_with fail
          go_quiet (fail)
          go_wp2_with fail
          go_roundw
          case rel => exact ⟨j + 1, by omega, by go_num, HF, Lib.hid (HR.out.trans ⟨rfl, rfl, rfl, Nat.le_refl _, fun _ _ => rfl⟩)⟩
          case measure => simp [intOf]; omega
        · have hxy' : (x != y) = true := by simp [hxy]
          have HF := Lib.hid (show (a == b) = false by
            rw [beq_eq_false_iff_ne]
            intro e
            have h1 := HX.out
            rw [e, HY.out] at h1
            injection h1 with h1
            exact hxy h1.symm)
          go_wp2_with fail
          go_quiet (fail)
          go_wp2_with fail
          go_ret
          exact ⟨by rw [HF.out]; rfl, HR.out.trans ⟨rfl, rfl, rfl, Nat.le_refl _, fun _ _ => rfl⟩⟩
      · have hja : decide ((j : Int) < (a.length : Int)) = false := by simp; omega
        have HF := Lib.hid (show (a == b) = true by
          rw [beq_iff_eq]
          apply List.ext_getElem?
          intro i
          by_cases hi : i < j
          · exact HV.out i hi
          · rw [List.getElem?_eq_none (by omega), List.getElem?_eq_none (by have := HL.out; omega)])
        go_wp2_with fail
        go_ret
        exact ⟨by rw [HF.out]; rfl, HR.out⟩
  · have hl' : ((a.length : Int) != (b.length : Int)) = true := by simp; omega
    have HF := Lib.hid (show (a == b) = false by rw [beq_eq_false_iff_ne]; intro e; exact hl (by rw [e]))
    go_enter Tryz.func28, Tryz.ntmps28
    go_wp2_with fail
    go_ret
    exact ⟨by rw [HF.out]; rfl, Below.refl _ _⟩
end Go.Proofs.YtfajbcjcigajfaaGreatDoor
namespace Go.Proofs.YtfajbcjcigajfaaGreatDoor
open Go.RowKit

/-- The node for a value of a fact, from a node on. -/
def stepN (x : Nd) (at' : Nat) (i v : Int) : Int := if 0 < x.kids.length ∧ x.fact = i then x.kids.getD (nextI x v).toNat 0 else at'
set_option maxRecDepth 100000 in
set_option maxHeartbeats 4000000 in
theorem step_any (S : Nat → Prop) (g : List Nd) (vg : Value) (at' : Nat) (i v : Int) (w : World) (hg : NdsAt S w vg g) (ha : at' < g.length) (hn : ∀ x, g[at']? = some x → 0 < x.kids.length → x.fact = i → nextI x v < x.kids.length) :
    Calls Tryz.prog 73 #[.agg #[vg], .int .i64 at', .int .i64 i, .int .i64 v] w fun e w' => e = .returned (.int .i64 (stepN g[at'] at' i v)) ∧ Below w.heap.size w w' := by
  obtain ⟨A, c, rfl, _⟩ := id hg
  have hl := SliceAt.len hg
  unfold N44 at hl
  obtain ⟨b, o, A2, c2, A3, c3, rfl, hSb, hb, hN, e0, e1, e2, e3⟩ := nd_cells hg ha
  have hn' := hn g[at'] (List.getElem?_eq_getElem ha)
  clear hn hg
  generalize g[at'] = x at *
  have hal : (at' : Int) < (g.length : Int) := by omega
  have hkl := SliceAt.len hN.kids
  unfold N44 at hkl
  have HN := Lib.hid hN
  have hxf := hN.fact
  clear hN
  by_cases hk : 0 < x.kids.length
  · have hk' : decide ((0 : Int) < (x.kids.length : Int)) = true := decide_eq_true (by omega)
    have hk2 : (0 : Int) < (x.kids.length : Int) := by omega
    by_cases hf : x.fact = i
    · have hf' : (x.fact == i) = true := by simp [hf]
      have hnl := hn' hk hf
      have hng := nextI_ge (v := v) hk
      obtain ⟨q, hq⟩ : ∃ q : Nat, nextI x v = q := ⟨(nextI x v).toNat, by omega⟩
      have hql : q < x.kids.length := by omega
      have HV := Lib.hid (show stepN x at' i v = x.kids[q] by
        rw [stepN, if_pos ⟨hk, hf⟩, hq, Int.toNat_natCast, List.getD_eq_getElem?_getD, List.getElem?_eq_getElem hql]; rfl)
      obtain ⟨bk, ok, rfl, _, hbk, kk, ki⟩ := int_cell HN.out.kids hql
      have hqi : (q : Int) < (x.kids.length : Int) := by omega
      have HQ := Lib.hid hq
      generalize x.kids[q] = z at *
      clear hn' hnl hng hq hf
      go_enter Tryz.func73, Tryz.ntmps73
      go_wp2_with fail
      have hb0 : Below w.heap.size w ((w.alloc (.cells #[.slice (some ⟨b, o, none⟩) g.length c] 34)).alloc (.cells #[.bool x.leaf, .int .i64 x.fact, .slice A2 x.cuts.length c2, .slice (some ⟨bk, ok, none⟩) x.kids.length c3] 55)).drew := (((Below.refl _ _).alloc (Nat.le_refl _) _).alloc (by simp) _).drew
      have HB0 := Lib.hid hb0
      have HX0 := Lib.hid (show ((w.alloc (.cells #[.slice (some ⟨b, o, none⟩) g.length c] 34)).alloc (.cells #[.bool x.leaf, .int .i64 x.fact, .slice A2 x.cuts.length c2, .slice (some ⟨bk, ok, none⟩) x.kids.length c3] 55)).drew.heap[w.heap.size + 1]? = some (.cells #[.bool x.leaf, .int .i64 x.fact, .slice A2 x.cuts.length c2, .slice (some ⟨bk, ok, none⟩) x.kids.length c3] 55 (0, 0)) from by
        have := new_ (w.alloc (.cells #[.slice (some ⟨b, o, none⟩) g.length c] 34)) (.cells #[.bool x.leaf, .int .i64 x.fact, .slice A2 x.cuts.length c2, .slice (some ⟨bk, ok, none⟩) x.kids.length c3] 55)
        have hz : (w.alloc (.cells #[.slice (some ⟨b, o, none⟩) g.length c] 34)).heap.size = w.heap.size + 1 := by simp
        rw [hz] at this
        exact this)
      clear hb0
      go_region_with (first | (go_at_call 57; refine (dnext_any _ x A2 c2 _ c3 v _ (HN.out.keep HB0.out)).mono ?_; rintro e w2 ⟨rfl, hb2⟩; have HB := Lib.hid (bthen HB0.out hb2); have hx2 := below_ hb2 HX0.out; have lx2 := blt_ hx2; obtain ⟨y0, y1, y2, y3, _⟩ := four_ hx2; clear hx2 hb2; have kk2 := (HB.out.cell (p := ⟨bk, ok + q, none⟩) hbk).trans kk; have hsz := HB.out.size; rw [HQ.out]))
      all_goals
        go_wp2_with fail
        go_ret
        exact ⟨by rw [HV.out]; rfl, HB.out⟩
    · have hf' : (x.fact == i) = false := by simp [hf]
      have HV := Lib.hid (show stepN x at' i v = at' by rw [stepN, if_neg (fun h => hf h.2)])
      clear hn' hf
      go_enter Tryz.func73, Tryz.ntmps73
      go_wp2_with fail
      go_ret
      exact ⟨by rw [HV.out]; rfl, ((Below.refl _ _).alloc (Nat.le_refl _) _).alloc (by simp) _⟩
  · have hk' : decide ((0 : Int) < (x.kids.length : Int)) = false := decide_eq_false (by omega)
    have HV := Lib.hid (show stepN x at' i v = at' by rw [stepN, if_neg (fun h => hk h.1)])
    have hk0 : x.kids.length = 0 := by omega
    clear hn'
    go_enter Tryz.func73, Tryz.ntmps73
    go_wp2_with fail
    go_ret
    exact ⟨by rw [HV.out]; rfl, ((Below.refl _ _).alloc (Nat.le_refl _) _).alloc (by simp) _⟩
/-- A diagram of at most n nodes, each with at most n kids and cuts. -/
def fewG (g : List Nd) (n : Nat) : Bool := decide (g.length ≤ n) && g.all fun x => decide (x.kids.length ≤ n) && decide (x.cuts.length ≤ n)
end Go.Proofs.YtfajbcjcigajfaaGreatDoor
namespace Go.Proofs.YtfajbcjcigajfaaGreatDoor
open Go.RowKit

/-- A value out of a fact's range. -/
def outB (x : Fc) (n : Int) : Bool := decide (n < x.lo) || decide (x.hi < n)
set_option maxRecDepth 100000 in
set_option maxHeartbeats 1000000 in
theorem out_any (x : Fc) (n : Int) (bx : Nat) (w : World) (h : w.heap[bx]? = some (.cells #[.string x.name, .int .i64 x.kind, .int .i64 x.lo, .int .i64 x.hi] 82 (0, 0))) :
    Calls Tryz.prog 93 #[.int .i64 n, .pointer (some ⟨bx, 0, none⟩)] w (BoolE (outB x n) w) := by
  obtain ⟨s0, s1, s2, s3, _⟩ := four_ h
  have hl := blt_ h
  by_cases h1 : n < x.lo
  · have HV := Lib.hid (show outB x n = true by simp [outB, h1])
    go_enter Tryz.func93, Tryz.ntmps93
    go_wp2_with fail
    go_ret
    exact ⟨by rw [HV.out]; rfl, Below.refl _ _⟩
  · have h1' : decide (n < x.lo) = false := decide_eq_false h1
    have HV := Lib.hid (show outB x n = decide (x.hi < n) by simp [outB, h1])
    go_enter Tryz.func93, Tryz.ntmps93
    go_wp2_with fail
    go_ret
    exact ⟨by rw [HV.out]; rfl, Below.refl _ _⟩
theorem all_no' {p : Nd → Bool} {g : List Nd} {j : Nat} {x : Nd} (hx : g[j]? = some x) (h : p x = false) : g.all p = false := by
  rw [Bool.eq_false_iff]
  intro ha
  have := List.all_eq_true.1 ha x (List.mem_of_getElem? hx)
  rw [h] at this; cases this
def fewN (n : Nat) (x : Nd) : Bool := decide (x.kids.length ≤ n) && decide (x.cuts.length ≤ n)
/-- What Few answers: it looks at the nodes only while these are few. -/
def fewB (g : List Nd) (n : Nat) : Bool := decide (g.length ≤ n) && g.all (fewN n)
set_option maxRecDepth 100000 in
set_option maxHeartbeats 2000000 in
theorem few_any (S : Nat → Prop) (g : List Nd) (v : Value) (n : Nat) (w : World) (hg : NdsAt S w v g) (hn : n ≤ 100000) :
    Calls Tryz.prog 22 #[.agg #[v], .int .i64 n] w (BoolE (fewB g n) w) := by
  obtain ⟨A, c, rfl, _⟩ := id hg
  have hl := SliceAt.len hg
  unfold N44 at hl
  have HG := Lib.hid hg
  clear hg
  go_enter Tryz.func22, Tryz.ntmps22
  go_wp2_with fail
  go_loopw [5] (fun v wr => ∃ j : Nat, j ≤ g.length ∧ v = .int .i64 j ∧ Hid (∀ x ∈ g.take j, fewN n x = true) ∧ Hid (Below w.heap.size w wr) ∧ Hid (wr.heap[w.heap.size]? = some (.cells #[.slice A g.length c] 34 (0, 0)))) (fun v _ => g.length - (intOf v).toNat)
  case atStart => exact ⟨0, Nat.zero_le _, rfl, Lib.hid (fun x h => by simp at h), Lib.hid (box_below _ _), Lib.hid (new_ _ _)⟩
  case round =>
    obtain ⟨j, hj, rfl, HN, HB, HX⟩ := hrel
    obtain ⟨x0, _⟩ := one_ HX.out
    have lx := blt_ HX.out
    by_cases hsm : g.length ≤ n
    · have hsm' : (g.length : Int) ≤ (n : Int) := by omega
      by_cases hlt : j < g.length
      · have hjl : (j : Int) < (g.length : Int) := by omega
        obtain ⟨b, o, A2, c2, A3, c3, rfl, hSb, hb, hNd, e0, e1, e2, e3⟩ := nd_cells (HG.out.keep HB.out.size (Agree.of_below HB.out) (fun _ hb hs => (⟨hs, hb⟩ : S _ ∧ _ < w.heap.size))) hlt
        have HY := Lib.hid (List.getElem?_eq_getElem hlt)
        generalize g[j] = x at *
        by_cases hk : x.kids.length ≤ n
        · have hk' : decide ((n : Int) < (x.kids.length : Int)) = false := decide_eq_false (by omega)
          by_cases hc : x.cuts.length ≤ n
          · have hc' : decide ((n : Int) < (x.cuts.length : Int)) = false := decide_eq_false (by omega)
            have HF := Lib.hid (show ∀ y ∈ g.take (j + 1), fewN n y = true by
              rw [take_snoc HY.out]
              intro y hy
              rcases List.mem_append.1 hy with hy | hy
              · exact HN.out y hy
              · rw [List.mem_singleton.1 hy]; simp [fewN, hk, hc])
            go_wp2_with fail
            go_roundw
            case rel => exact ⟨j + 1, by omega, by go_num, HF, HB, HX⟩
            case measure => simp [intOf]; omega
          · have hc' : decide ((n : Int) < (x.cuts.length : Int)) = true := decide_eq_true (by omega)
            have HF := Lib.hid (show fewB g n = false by rw [fewB, all_no' HY.out (by simp [fewN, hc])]; simp)
            go_wp2_with fail
            go_ret
            exact ⟨by rw [HF.out]; rfl, HB.out⟩
        · have hk' : decide ((n : Int) < (x.kids.length : Int)) = true := decide_eq_true (by omega)
          have HF := Lib.hid (show fewB g n = false by rw [fewB, all_no' HY.out (by simp [fewN, hk])]; simp)
          go_wp2_with fail
          go_ret
          exact ⟨by rw [HF.out]; rfl, HB.out⟩
      · obtain rfl : j = g.length := by omega
        have hjl : decide ((g.length : Int) < (g.length : Int)) = false := by simp
        have HF := Lib.hid (show fewB g n = true by
          rw [fewB, decide_eq_true hsm]
          have h := HN.out
          rw [List.take_length] at h
          rw [List.all_eq_true.2 h]; rfl)
        go_wp2_with fail
        go_ret
        exact ⟨by rw [HF.out]; rfl, HB.out⟩
    · have hsm' : decide ((g.length : Int) ≤ (n : Int)) = false := decide_eq_false (by omega)
      have HF := Lib.hid (show fewB g n = false by simp [fewB, hsm])
      by_cases hlt : j < g.length
      · have hjl : (j : Int) < (g.length : Int) := by omega
        go_wp2_with fail
        go_ret
        exact ⟨by rw [HF.out]; rfl, HB.out⟩
      · have hjl : decide ((j : Int) < (g.length : Int)) = false := decide_eq_false (by omega)
        go_wp2_with fail
        go_ret
        exact ⟨by rw [HF.out]; rfl, HB.out⟩
end Go.Proofs.YtfajbcjcigajfaaGreatDoor
