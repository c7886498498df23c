/- Part of the proof of a law of customhouselaw26: the texts K5. -/
import Derived.Test.YtfajbcjcigajfaaGreatDoorME2E3E4E5
import Derived.Test.YtfajbcjcigajfaaGreatDoorMF4
import Derived.Test.YtfajbcjcigajfaaGreatDoorMK3K4
namespace Go.Proofs.YtfajbcjcigajfaaGreatDoor
open Go.RowKit

theorem ne_row {w : World} {B : Nat} {v : Value} {l : List Int} (h : OwnAt w B 3 1 IntR v l) {k t : Nat} {c : Array Value} {fr : Nat × Nat} (hb : w.heap[k]? = some (.cells c t fr)) (ht : t ≠ 3) : some k ≠ v.ownBlock := by
  intro e
  obtain ⟨_, c2, h2⟩ := row_type h e.symm
  rw [hb] at h2
  injection h2 with h2
  injection h2 with _ h2
  exact ht h2
set_option maxRecDepth 100000 in
set_option maxHeartbeats 4000000 in
theorem gather_any (B bx bo bv : Nat) (x : Fc) : ∀ (d : Nat) (S : Nat → Prop) (f : Fm) (A : Option Addr) (c : Nat) (v : Value) (l : List Int) (w : World), FmR S w d f (fv f A c) → (∀ k, S k → k < B ∧ k ≠ bo) → AllF (fun g => g.op = 3 → 0 ≤ g.n ∧ g.n ≤ 1000000) f → StAt w B bx bo bv x v l → B ≤ w.heap.size → l.length + (cutsF x.name f).length ≤ 1000000 →
    Calls Tryz.prog 91 #[fmV f A c, .pointer (some ⟨bx, 0, none⟩), .pointer (some ⟨bo, 0, none⟩), .pointer (some ⟨bv, 0, none⟩)] w fun e w' => e = .returned (.tuple #[]) ∧ ∃ v', StAt w' B bx bo bv x v' (l ++ cutsF x.name f) ∧ Chg (RowT w B bo) w w' := by
  intro d
  induction d with
  | zero => intro S f A c v l w h; exact h.elim
  | succ d ih =>
    intro S f A c v l w h hS hok hst hBw hlen
    obtain ⟨hk, _, _, i3, hs⟩ := fm_kids h
    rw [AllF_eq] at hok
    obtain ⟨hn3, hkids⟩ := hok
    have hkn := hk.1
    unfold N44 at hkn
    have HK := Lib.hid hk
    have HN := Lib.hid (cutsF_eq x.name f)
    have HST := Lib.hid (hst.below (box_below w (.cells #[.int .i64 f.op, .string f.name, .int .i64 f.cmp, .int .i64 f.n, .slice A f.kids.length c] 24)))
    have lbo := blt_ hst.out
    have lbx := blt_ hst.fact
    have lbv := blt_ hst.fn
    have hX0 := new_ w (.cells #[.int .i64 f.op, .string f.name, .int .i64 f.cmp, .int .i64 f.n, .slice A f.kids.length c] 24)
    obtain ⟨y0, y1, y2, y3, _⟩ := four_ hst.fact
    obtain ⟨o0, o1⟩ := one_ hst.out
    obtain ⟨Av, cv, rfl⟩ := hst.row.shape
    have HST0 := Lib.hid hst
    have hse := str_eq (a := f.name) (b := x.name)
    clear hst
    by_cases h3 : f.op = 3 ∧ f.name = x.name
    · obtain ⟨l1, hl1⟩ : ∃ l1, l1 = l ++ [f.n, f.n + 1] := ⟨_, rfl⟩
      have HNN := Lib.hid (show l ++ cutsF x.name f = l1 ++ (f.kids.map (cutsF x.name)).flatten by rw [HN.out, if_pos h3, hl1, List.append_assoc])
      have HLN := Lib.hid (show l1.length + (f.kids.map (cutsF x.name)).flatten.length ≤ 1000000 by have := congrArg List.length HNN.out; simp only [List.length_append] at this hlen ⊢; omega)
      have h3' : (f.op == 3) = true := by simp [h3.1]
      have hse' : (f.name.toList == x.name.toList) = true := by rw [hse]; simp [h3.2]
      obtain ⟨n0, n1⟩ := hn3 h3.1
      have HL1 := Lib.hid hl1
      clear hk h h3 hl1 hse
      go_enter Tryz.func91, Tryz.ntmps91
      go_wp2_with (at_builtin; refine app_two B rfl (.tmp 17) (.tmp 23) 28 3 _ rfl Tryz.underlying28 info3 rfl (.slice Av l.length cv) l f.n (f.n + 1) i3 (by simp only [I64]; omega) rfl (w.heap.size + 1) rfl ?c0 HST.out.row ?c1 ?c2 ?_)
      case c0 => simp
      case c1 => simp; omega
      case c2 => omega
      intro v1 w2 ho2 hg2
      obtain ⟨l2, hl2⟩ : ∃ l2, l2 = l ++ [f.n, f.n + 1] := ⟨_, rfl⟩
      rw [← hl2] at ho2
      obtain rfl : l2 = l1 := by rw [hl2, HL1.out]
      clear hl2
      obtain ⟨A1, c1, rfl⟩ := ho2.shape
      have hXw := (hg2.block w.heap.size (by simp) (ne_row HST.out.row hX0 (by decide))).trans hX0
      have hbo := (hg2.block bo (by simp; omega) (ne_row HST.out.row HST.out.out (by decide))).trans HST.out.out
      have hbx := (hg2.block bx (by simp; omega) (ne_row HST.out.row HST.out.fact (by decide))).trans HST.out.fact
      have hbv := (hg2.block bv (by simp; omega) (ne_row HST.out.row HST.out.fn (by decide))).trans HST.out.fn
      have hnb := ne_row ho2 hbo (by decide)
      obtain ⟨p0, p1⟩ := one_ hbo
      have lbo2 := blt_ hbo
      have HX := Lib.hid ((set_oth (v := .slice A1 l2.length c1) (show w.heap.size ≠ bo by omega)).trans hXw)
      have hxo : bx ≠ bo := by rintro rfl; have := HST0.out.out; rw [HST0.out.fact] at this; injection this with this; injection this with _ this; cases this
      have hvo : bv ≠ bo := by rintro rfl; have := HST0.out.out; rw [HST0.out.fn] at this; injection this with this; injection this with _ this; cases this
      have HSt := Lib.hid (show StAt (w2.setCell ⟨bo, 0, none⟩ (.slice A1 l2.length c1)) B bx bo bv x (.slice A1 l2.length c1) l2 from ⟨(set_oth hxo).trans hbx, set_one hbo, (set_oth hvo).trans hbv, ho2.keep (fun k hk _ => set_oth (by rintro rfl; exact hnb hk.symm)) (fun _ _ _ h => h)⟩)
      have HC := Lib.hid (show Chg (RowT w B bo) w (w2.setCell ⟨bo, 0, none⟩ (.slice A1 l2.length c1)) from ((((Chg.refl (RowT w B bo) w).alloc _).grown hg2 (fun i hi _ => .inr (row_type HST0.out.row hi))).setCell (fun _ => .inl rfl) _))
      clear hg2 ho2 hXw hbo hbx hbv
      obtain ⟨x0, x1, x2, x3, x4, _⟩ := five_ HX.out
      have lx := blt_ HX.out
      go_wp2_with fail
      go_loopw [28] (fun v wr => ∃ (j : Nat) (v2 : Value), j ≤ f.kids.length ∧ v = .int .i64 j ∧ Hid (StAt wr B bx bo bv x v2 (l2 ++ ((f.kids.take j).map (cutsF x.name)).flatten)) ∧ Hid (Chg (RowT w B bo) w wr)) (fun v _ => f.kids.length - (intOf v).toNat)
      case atStart => exact ⟨0, _, Nat.zero_le _, rfl, Lib.hid (by simpa using HSt.out), HC⟩
      case round =>
        clear HSt HC
        obtain ⟨j, v2, hj, rfl, HSt, HC⟩ := hrel
        by_cases hlt : j < f.kids.length
        · have hr := HK.out.keep' HC.out.size (HC.out.agree (fun i _ hs ht => by have h1 := hS i hs; rcases ht with h2 | h2 <;> omega))
          obtain ⟨b2, o2, A', c', rfl, hSb, hbb, hR, k0, k1, k2, k3, k4⟩ := kid_cells hr hlt
          have hkm := hkids _ (List.getElem_mem hlt)
          have HT2 := Lib.hid (show ((f.kids.take (j + 1)).map (cutsF x.name)).flatten = ((f.kids.take j).map (cutsF x.name)).flatten ++ cutsF x.name f.kids[j] by
            rw [List.take_succ_eq_append_getElem hlt, List.map_append, List.flatten_append]; simp)
          have HLE := Lib.hid (show ((f.kids.take (j + 1)).map (cutsF x.name)).flatten.length ≤ (f.kids.map (cutsF x.name)).flatten.length by
            conv => rhs; rw [← List.take_append_drop (j + 1) f.kids, List.map_append, List.flatten_append, List.length_append]
            omega)
          generalize f.kids[j] = k at *
          have HR := Lib.hid hR
          obtain ⟨g0, _⟩ := one_ HSt.out.fn
          have lv := blt_ HSt.out.fn
          have HKM := Lib.hid hkm
          clear hR hr hkm
          have hjs : (j : Int) < (f.kids.length : Int) := by omega
          go_wp2_with fail
          refine (ih _ k A' c' v2 (l2 ++ ((f.kids.take j).map (cutsF x.name)).flatten) _ (HR.out.keep (by simp) (Agree.of_below (box_below _ _)) (fun _ hb hs => (⟨hs, hb⟩ : (S _ ∧ _ < w.heap.size) ∧ _ < wr.heap.size))) (fun k hk => hS k hk.1.1) HKM.out (HSt.out.below (box_below _ _)) (by have := HC.out.size; simp; omega) (by have h1 := HLE.out; have h2 := HLN.out; rw [HT2.out] at h1; simp only [List.length_append] at h1 ⊢; omega)).mono ?_
          rintro e w5 ⟨rfl, v5, hs5, hc5⟩
          have HS5 := Lib.hid (show StAt w5 B bx bo bv x v5 (l2 ++ ((f.kids.take (j + 1)).map (cutsF x.name)).flatten) by rw [HT2.out, ← List.append_assoc]; exact hs5)
          have HC5 := Lib.hid (RowT.trans (RowT.trans HC.out ((Chg.refl _ wr).alloc (.cells #[.int .i64 k.op, .string k.name, .int .i64 k.cmp, .int .i64 k.n, .slice A' k.kids.length c'] 24))) hc5)
          clear hs5 hc5 HSt HC
          go_wp2_with fail
          go_roundw
          case rel => exact ⟨j + 1, v5, by omega, by go_num, HS5, HC5⟩
          case measure => simp [intOf]; omega
        · obtain rfl : j = f.kids.length := by omega
          have hSt := HSt.out
          rw [List.take_length] at hSt
          have HS2 := Lib.hid hSt
          clear hSt HSt
          go_wp2_with fail
          go_end0
          exact ⟨rfl, v2, by rw [HNN.out]; exact HS2.out, HC.out⟩
    · obtain ⟨l2, hl2⟩ : ∃ l2, l2 = l := ⟨_, rfl⟩
      have HNN := Lib.hid (show l ++ cutsF x.name f = l2 ++ (f.kids.map (cutsF x.name)).flatten by rw [HN.out, if_neg h3, hl2]; rfl)
      have HLN := Lib.hid (show l2.length + (f.kids.map (cutsF x.name)).flatten.length ≤ 1000000 by have := congrArg List.length HNN.out; simp only [List.length_append] at this hlen ⊢; omega)
      have HSt := Lib.hid (show StAt (w.alloc (.cells #[.int .i64 f.op, .string f.name, .int .i64 f.cmp, .int .i64 f.n, .slice A f.kids.length c] 24)) B bx bo bv x (.slice Av l.length cv) l2 by rw [hl2]; exact HST.out)
      have HC := Lib.hid (show Chg (RowT w B bo) w (w.alloc (.cells #[.int .i64 f.op, .string f.name, .int .i64 f.cmp, .int .i64 f.n, .slice A f.kids.length c] 24)) from (Chg.refl (RowT w B bo) w).alloc _)
      have HX := Lib.hid hX0
      clear hl2 hk h
      by_cases h1 : f.op = 3
      · have h1' : (f.op == 3) = true := by simp [h1]
        have hse' : (f.name.toList == x.name.toList) = false := by rw [hse]; simp; exact fun h => h3 ⟨h1, h⟩
        clear h3 hse h1
        go_enter Tryz.func91, Tryz.ntmps91
        obtain ⟨x0, x1, x2, x3, x4, _⟩ := five_ HX.out
        have lx := blt_ HX.out
        go_wp2_with fail
        go_loopw [28] (fun v wr => ∃ (j : Nat) (v2 : Value), j ≤ f.kids.length ∧ v = .int .i64 j ∧ Hid (StAt wr B bx bo bv x v2 (l2 ++ ((f.kids.take j).map (cutsF x.name)).flatten)) ∧ Hid (Chg (RowT w B bo) w wr)) (fun v _ => f.kids.length - (intOf v).toNat)
        case atStart => exact ⟨0, _, Nat.zero_le _, rfl, Lib.hid (by simpa using HSt.out), HC⟩
        case round =>
          clear HSt HC
          obtain ⟨j, v2, hj, rfl, HSt, HC⟩ := hrel
          by_cases hlt : j < f.kids.length
          · have hr := HK.out.keep' HC.out.size (HC.out.agree (fun i _ hs ht => by have h1 := hS i hs; rcases ht with h2 | h2 <;> omega))
            obtain ⟨b2, o2, A', c', rfl, hSb, hbb, hR, k0, k1, k2, k3, k4⟩ := kid_cells hr hlt
            have hkm := hkids _ (List.getElem_mem hlt)
            have HT2 := Lib.hid (show ((f.kids.take (j + 1)).map (cutsF x.name)).flatten = ((f.kids.take j).map (cutsF x.name)).flatten ++ cutsF x.name f.kids[j] by
              rw [List.take_succ_eq_append_getElem hlt, List.map_append, List.flatten_append]; simp)
            have HLE := Lib.hid (show ((f.kids.take (j + 1)).map (cutsF x.name)).flatten.length ≤ (f.kids.map (cutsF x.name)).flatten.length by
              conv => rhs; rw [← List.take_append_drop (j + 1) f.kids, List.map_append, List.flatten_append, List.length_append]
              omega)
            generalize f.kids[j] = k at *
            have HR := Lib.hid hR
            obtain ⟨g0, _⟩ := one_ HSt.out.fn
            have lv := blt_ HSt.out.fn
            have HKM := Lib.hid hkm
            clear hR hr hkm
            have hjs : (j : Int) < (f.kids.length : Int) := by omega
            go_wp2_with fail
            refine (ih _ k A' c' v2 (l2 ++ ((f.kids.take j).map (cutsF x.name)).flatten) _ (HR.out.keep (by simp) (Agree.of_below (box_below _ _)) (fun _ hb hs => (⟨hs, hb⟩ : (S _ ∧ _ < w.heap.size) ∧ _ < wr.heap.size))) (fun k hk => hS k hk.1.1) HKM.out (HSt.out.below (box_below _ _)) (by have := HC.out.size; simp; omega) (by have h1 := HLE.out; have h2 := HLN.out; rw [HT2.out] at h1; simp only [List.length_append] at h1 ⊢; omega)).mono ?_
            rintro e w5 ⟨rfl, v5, hs5, hc5⟩
            have HS5 := Lib.hid (show StAt w5 B bx bo bv x v5 (l2 ++ ((f.kids.take (j + 1)).map (cutsF x.name)).flatten) by rw [HT2.out, ← List.append_assoc]; exact hs5)
            have HC5 := Lib.hid (RowT.trans (RowT.trans HC.out ((Chg.refl _ wr).alloc (.cells #[.int .i64 k.op, .string k.name, .int .i64 k.cmp, .int .i64 k.n, .slice A' k.kids.length c'] 24))) hc5)
            clear hs5 hc5 HSt HC
            go_wp2_with fail
            go_roundw
            case rel => exact ⟨j + 1, v5, by omega, by go_num, HS5, HC5⟩
            case measure => simp [intOf]; omega
          · obtain rfl : j = f.kids.length := by omega
            have hSt := HSt.out
            rw [List.take_length] at hSt
            have HS2 := Lib.hid hSt
            clear hSt HSt
            go_wp2_with fail
            go_end0
            exact ⟨rfl, v2, by rw [HNN.out]; exact HS2.out, HC.out⟩
      · have h1' : (f.op == 3) = false := by simp [h1]
        clear h3 hse h1
        go_enter Tryz.func91, Tryz.ntmps91
        obtain ⟨x0, x1, x2, x3, x4, _⟩ := five_ HX.out
        have lx := blt_ HX.out
        go_wp2_with fail
        go_loopw [28] (fun v wr => ∃ (j : Nat) (v2 : Value), j ≤ f.kids.length ∧ v = .int .i64 j ∧ Hid (StAt wr B bx bo bv x v2 (l2 ++ ((f.kids.take j).map (cutsF x.name)).flatten)) ∧ Hid (Chg (RowT w B bo) w wr)) (fun v _ => f.kids.length - (intOf v).toNat)
        case atStart => exact ⟨0, _, Nat.zero_le _, rfl, Lib.hid (by simpa using HSt.out), HC⟩
        case round =>
          clear HSt HC
          obtain ⟨j, v2, hj, rfl, HSt, HC⟩ := hrel
          by_cases hlt : j < f.kids.length
          · have hr := HK.out.keep' HC.out.size (HC.out.agree (fun i _ hs ht => by have h1 := hS i hs; rcases ht with h2 | h2 <;> omega))
            obtain ⟨b2, o2, A', c', rfl, hSb, hbb, hR, k0, k1, k2, k3, k4⟩ := kid_cells hr hlt
            have hkm := hkids _ (List.getElem_mem hlt)
            have HT2 := Lib.hid (show ((f.kids.take (j + 1)).map (cutsF x.name)).flatten = ((f.kids.take j).map (cutsF x.name)).flatten ++ cutsF x.name f.kids[j] by
              rw [List.take_succ_eq_append_getElem hlt, List.map_append, List.flatten_append]; simp)
            have HLE := Lib.hid (show ((f.kids.take (j + 1)).map (cutsF x.name)).flatten.length ≤ (f.kids.map (cutsF x.name)).flatten.length by
              conv => rhs; rw [← List.take_append_drop (j + 1) f.kids, List.map_append, List.flatten_append, List.length_append]
              omega)
            generalize f.kids[j] = k at *
            have HR := Lib.hid hR
            obtain ⟨g0, _⟩ := one_ HSt.out.fn
            have lv := blt_ HSt.out.fn
            have HKM := Lib.hid hkm
            clear hR hr hkm
            have hjs : (j : Int) < (f.kids.length : Int) := by omega
            go_wp2_with fail
            refine (ih _ k A' c' v2 (l2 ++ ((f.kids.take j).map (cutsF x.name)).flatten) _ (HR.out.keep (by simp) (Agree.of_below (box_below _ _)) (fun _ hb hs => (⟨hs, hb⟩ : (S _ ∧ _ < w.heap.size) ∧ _ < wr.heap.size))) (fun k hk => hS k hk.1.1) HKM.out (HSt.out.below (box_below _ _)) (by have := HC.out.size; simp; omega) (by have h1 := HLE.out; have h2 := HLN.out; rw [HT2.out] at h1; simp only [List.length_append] at h1 ⊢; omega)).mono ?_
            rintro e w5 ⟨rfl, v5, hs5, hc5⟩
            have HS5 := Lib.hid (show StAt w5 B bx bo bv x v5 (l2 ++ ((f.kids.take (j + 1)).map (cutsF x.name)).flatten) by rw [HT2.out, ← List.append_assoc]; exact hs5)
            have HC5 := Lib.hid (RowT.trans (RowT.trans HC.out ((Chg.refl _ wr).alloc (.cells #[.int .i64 k.op, .string k.name, .int .i64 k.cmp, .int .i64 k.n, .slice A' k.kids.length c'] 24))) hc5)
            clear hs5 hc5 HSt HC
            go_wp2_with fail
            go_roundw
            case rel => exact ⟨j + 1, v5, by omega, by go_num, HS5, HC5⟩
            case measure => simp [intOf]; omega
          · obtain rfl : j = f.kids.length := by omega
            have hSt := HSt.out
            rw [List.take_length] at hSt
            have HS2 := Lib.hid hSt
            clear hSt HSt
            go_wp2_with fail
            go_end0
            exact ⟨rfl, v2, by rw [HNN.out]; exact HS2.out, HC.out⟩
end Go.Proofs.YtfajbcjcigajfaaGreatDoor
