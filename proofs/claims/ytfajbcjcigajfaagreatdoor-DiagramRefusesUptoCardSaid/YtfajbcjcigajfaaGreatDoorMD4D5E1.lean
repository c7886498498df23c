/- Part of the proof of a law of customhouselaw26: the texts D4 D5 E1. -/
import Derived.Test.YtfajbcjcigajfaaGreatDoorMB2MapB3
import Derived.Test.YtfajbcjcigajfaaGreatDoorMD1D2D3
namespace Go.Proofs.YtfajbcjcigajfaaGreatDoor
open Go.RowKit

def largeB (f : Fm) : Bool := decide (200 < nodesF f) || decide (20 < depthF f)
set_option maxRecDepth 100000 in
set_option maxHeartbeats 1000000 in
theorem large_any (S : Nat → Prop) (d : Nat) (f : Fm) (A : Option Addr) (c : Nat) (w : World) (h : FmR S w d f (fv f A c)) (hn : nodesF f ≤ 100000) :
    Calls Tryz.prog 49 #[fmV f A c] w (BoolE (largeB f) w) := by
  go_enter Tryz.func49, Tryz.ntmps49
  go_wp2_with fail
  refine (size_any (fun b => S b ∧ b < w.heap.size) d f A c _ (h.keep (by simp) (Agree.of_below (box_below _ _)) (fun _ hb hs => ⟨hs, hb⟩)) hn).mono ?_
  rintro e w1 ⟨rfl, hb⟩
  have HB := Lib.hid (bthen (box_below _ _) hb)
  have HL := Lib.hid (show largeB f = (decide (200 < nodesF f) || decide (20 < depthF f)) from rfl)
  clear hb h
  by_cases h1 : 200 < nodesF f
  · have h1' : (200 : Int) < (nodesF f : Int) := by omega
    have HL2 := Lib.hid (show largeB f = true by rw [HL.out]; simp [h1])
    go_wp2_with fail
    go_ret
    exact ⟨by rw [HL2.out]; rfl, HB.out⟩
  · have h1' : decide ((200 : Int) < (nodesF f : Int)) = false := by simp; omega
    by_cases h2 : 20 < depthF f
    · have h2' : (20 : Int) < (depthF f : Int) := by omega
      have HL2 := Lib.hid (show largeB f = true by rw [HL.out]; simp [h2])
      go_wp2_with fail
      go_ret
      exact ⟨by rw [HL2.out]; rfl, HB.out⟩
    · have h2' : decide ((20 : Int) < (depthF f : Int)) = false := by simp; omega
      have HL2 := Lib.hid (show largeB f = false by rw [HL.out]; simp [h1, h2])
      go_wp2_with fail
      go_ret
      exact ⟨by rw [HL2.out]; rfl, HB.out⟩
/-- What is wrong with one node of a formula. -/
def lookI (fs : List Fc) (f : Fm) : Int :=
  if formedB f.op f.name f.cmp f.n f.kids.length = false then 1
  else if f.op ≠ 3 then 0 else if f.n < 0 ∨ 1000000 < f.n then 10 else if idxI (sameName f.name) fs < 0 then 7 else 0
set_option maxRecDepth 100000 in
set_option maxHeartbeats 2000000 in
theorem look_any (S : Nat → Prop) (f : Fm) (A : Option Addr) (c : Nat) (fs : List Fc) (AD : Option Addr) (cD bD : Nat) (w : World) (hs : f.name.size ≤ 140737488351232) (hD : w.heap[bD]? = some (.cells #[.slice AD fs.length cD] 27 (0, 0))) (hF : FcsAt S w (.slice AD fs.length cD) fs) :
    Calls Tryz.prog 51 #[fmV f A c, .pointer (some ⟨bD, 0, none⟩)] w fun e w' => e = .returned (.int .i64 (lookI fs f)) ∧ Below w.heap.size w w' := by
  obtain ⟨d0, d1⟩ := one_ hD
  have l1 := blt_ hD
  have HL := Lib.hid (show lookI fs f = _ from rfl)
  go_enter Tryz.func51, Tryz.ntmps51
  go_wp2_with fail
  refine (formed_any f.op f.name f.cmp f.n A f.kids.length c _ hs).mono ?_
  rintro e w1 ⟨rfl, hb⟩
  have HB := Lib.hid (bthen (box_below _ _) hb)
  obtain ⟨s0, s1, s2, s3, s4, _⟩ := five_ (below_ hb (new_ w _))
  have HN := Lib.hid (below_ hb (new_ w _))
  clear hb
  cases hf : formedB f.op f.name f.cmp f.n f.kids.length
  · have HV := Lib.hid (show lookI fs f = 1 by simp [lookI, hf])
    clear hf HL
    go_wp2_with fail
    go_ret
    exact ⟨by rw [HV.out]; rfl, HB.out⟩
  · by_cases h3 : f.op = 3
    · have h3' : (f.op != 3) = false := by simp [h3]
      by_cases hn0 : f.n < 0
      · have HV := Lib.hid (show lookI fs f = 10 by unfold lookI; rw [hf, if_neg (by simp), if_neg (by simp [h3]), if_pos (.inl hn0)])
        clear hf HL
        go_wp2_with fail
        go_ret
        exact ⟨by rw [HV.out]; rfl, HB.out⟩
      · have hn0' : decide (f.n < 0) = false := decide_eq_false hn0
        by_cases hn1 : 1000000 < f.n
        · have HV := Lib.hid (show lookI fs f = 10 by unfold lookI; rw [hf, if_neg (by simp), if_neg (by simp [h3]), if_pos (.inr hn1)])
          clear hf HL
          go_wp2_with fail
          go_ret
          exact ⟨by rw [HV.out]; rfl, HB.out⟩
        · have hn1' : decide (1000000 < f.n) = false := decide_eq_false hn1
          have HV := Lib.hid (show lookI fs f = if idxI (sameName f.name) fs < 0 then 7 else 0 by unfold lookI; rw [hf, if_neg (by simp), if_neg (by simp [h3]), if_neg (by omega)])
          have d0' := (HB.out.cell (p := ⟨bD, 0, none⟩) l1).trans d0
          have l1' := Nat.lt_of_lt_of_le l1 HB.out.size
          clear hf HL d0 d1
          go_wp2_with fail
          refine (index_any (fun b => S b ∧ b < w.heap.size) fs f.name _ w1 (hF.keep HB.out.size (Agree.of_below HB.out) (fun _ hb hs => ⟨hs, hb⟩))).mono ?_
          rintro e w2 ⟨rfl, hb2⟩
          have HB2 := Lib.hid (bthen HB.out hb2)
          clear hb2 HB
          by_cases hi : idxI (sameName f.name) fs < 0
          · have HV2 := Lib.hid (show lookI fs f = 7 by rw [HV.out, if_pos hi])
            go_wp2_with fail
            go_ret
            exact ⟨by rw [HV2.out]; rfl, HB2.out⟩
          · have HV2 := Lib.hid (show lookI fs f = 0 by rw [HV.out, if_neg hi])
            have hi' : decide (idxI (sameName f.name) fs < 0) = false := decide_eq_false hi
            go_wp2_with fail
            go_ret
            exact ⟨by rw [HV2.out]; rfl, HB2.out⟩
    · have h3' : (f.op != 3) = true := by simp [h3]
      have HV := Lib.hid (show lookI fs f = 0 by simp [lookI, hf, h3])
      clear hf HL
      go_wp2_with fail
      go_ret
      exact ⟨by rw [HV.out]; rfl, HB.out⟩
end Go.Proofs.YtfajbcjcigajfaaGreatDoor
namespace Go.Proofs.YtfajbcjcigajfaaGreatDoor
open Go.RowKit

/-- The first error among a formula's nodes. -/
def firstF (look : Fm → Int) (f : Fm) : Int := if look f ≠ 0 then look f else ((f.kids.map fun k => firstF look k).find? (· != 0)).getD 0
termination_by f
decreasing_by (cases f; simp_wf; rename_i h; have := List.sizeOf_lt_of_mem h; simp_all; omega)
theorem firstF_eq (look : Fm → Int) (f : Fm) : firstF look f = if look f ≠ 0 then look f else ((f.kids.map (firstF look)).find? (· != 0)).getD 0 := by rw [firstF]
/-- The facts of a domain lie in the box bD. -/
structure DomAt (S : Nat → Prop) (w : World) (bD : Nat) (AD : Option Addr) (cD : Nat) (fs : List Fc) : Prop where
  box : w.heap[bD]? = some (.cells #[.slice AD fs.length cD] 27 (0, 0))
  row : FcsAt S w (.slice AD fs.length cD) fs
theorem DomAt.keep {S : Nat → Prop} {w w' : World} {bD : Nat} {AD : Option Addr} {cD : Nat} {fs : List Fc} (h : DomAt S w bD AD cD fs) (hb : Below w.heap.size w w') : DomAt (fun b => S b ∧ b < w.heap.size) w' bD AD cD fs :=
  ⟨below_ hb h.box, h.row.keep hb.size (Agree.of_below hb) (fun _ hb hs => ⟨hs, hb⟩)⟩
/-- The errors of the first j kids are none. -/
theorem find_snoc {l : List Int} {j : Nat} {x : Int} (h : ∀ y ∈ l.take j, y = 0) (hx : l[j]? = some x) (h0 : x ≠ 0) : (l.find? (· != 0)).getD 0 = x := by
  have hlt := (List.getElem?_eq_some_iff.1 hx).1
  have h2 : l[j] = x := (List.getElem?_eq_some_iff.1 hx).2
  have h1 : l = l.take j ++ x :: l.drop (j + 1) := by rw [← h2, List.getElem_cons_drop, List.take_append_drop]
  rw [h1, List.find?_append, List.find?_eq_none.2 (fun k hk => by simp [h k hk])]
  simp [h0]
def FirstP (look : Fm → Int) (f : Fm) (j : Nat) (e : Int) : Prop :=
  (e = 0 ∧ look f = 0 ∧ ∀ y ∈ (f.kids.map (firstF look)).take j, y = 0) ∨ (e ≠ 0 ∧ e = firstF look f)
set_option maxRecDepth 100000 in
set_option maxHeartbeats 2000000 in
theorem first_any (bD : Nat) (AD : Option Addr) (cD : Nat) (fs : List Fc) : ∀ (d : Nat) (S SD : Nat → Prop) (f : Fm) (A : Option Addr) (c : Nat) (w : World), FmR S w d f (fv f A c) → nodesF f ≤ 100000 → DomAt SD w bD AD cD fs →
    Calls Tryz.prog 50 #[fmV f A c, .func (Fn.func 51) #[] #[.pointer (some ⟨bD, 0, none⟩)]] w fun e w' => e = .returned (.int .i64 (firstF (lookI fs) f)) ∧ Below w.heap.size w w' := by
  intro d
  induction d with
  | zero => intro S SD f A c w h; exact h.elim
  | succ d ih =>
    intro S SD f A c w h hn hd
    obtain ⟨hk, _, _, _, hs⟩ := fm_kids h
    have hkl := kids_len f
    have HK := Lib.hid hk
    have HD := Lib.hid hd
    have HE := Lib.hid (firstF_eq (lookI fs) f)
    clear hk hd h
    go_enter Tryz.func50, Tryz.ntmps50
    go_wp2_with fail
    have hd1 := HD.out.keep (box_below w (.cells #[.int .i64 f.op, .string f.name, .int .i64 f.cmp, .int .i64 f.n, .slice A f.kids.length c] 24))
    refine (look_any _ f A c fs AD cD bD _ hs hd1.box hd1.row).mono ?_
    rintro e w1 ⟨rfl, hb⟩
    have HB := Lib.hid (bthen (box_below _ _) hb)
    obtain ⟨s0, s1, s2, s3, s4, _⟩ := five_ (below_ hb (new_ w _))
    clear hd1 hb
    go_wp2_with fail
    go_loopw [5, 14] (fun ve v wr => ∃ (j : Nat) (e : Int), j ≤ f.kids.length ∧ v = .int .i64 j ∧ ve = .int .i64 e ∧ Hid (FirstP (lookI fs) f j e) ∧ Hid (Below w.heap.size w wr)) (fun _ v _ => f.kids.length - (intOf v).toNat)
    case atStart =>
      refine ⟨0, _, Nat.zero_le _, rfl, rfl, Lib.hid ?_, HB⟩
      by_cases h0 : lookI fs f = 0
      · exact .inl ⟨h0, h0, by simp⟩
      · exact .inr ⟨h0, by rw [HE.out, if_pos h0]⟩
    case round =>
      clear HB s0 s1 s2 s3 s4
      obtain ⟨j, er, hj, rfl, rfl, HP, HB⟩ := hrel
      by_cases hlt : j < f.kids.length
      · have hr := HK.out.keep' HB.out.size (Agree.of_below HB.out)
        obtain ⟨b, o, A', c', rfl, hSb, hb, hR, e0, e1, e2, e3, e4⟩ := kid_cells hr hlt
        have hmem : f.kids[j] ∈ f.kids := List.getElem_mem hlt
        have hnk := nodes_kid hmem
        have HJ := Lib.hid (show (f.kids.map (firstF (lookI fs)))[j]? = some (firstF (lookI fs) f.kids[j]) by rw [List.getElem?_map, List.getElem?_eq_getElem hlt]; rfl)
        generalize f.kids[j] = k at *
        have HR := Lib.hid hR
        clear hR hr hmem
        by_cases he : er = 0
        · subst he
          have he' : ((0 : Int) != 0) = false := rfl
          go_wp2_with fail
          refine (ih (fun b => (S b ∧ b < w.heap.size) ∧ b < wr.heap.size) _ k A' c' _ (HR.out.keep (by simp) (Agree.of_below (box_below _ _)) (fun _ hb hs => ⟨hs, hb⟩)) (by omega) ((HD.out.keep HB.out).keep (box_below _ _))).mono ?_
          rintro e w2 ⟨rfl, hb2⟩
          have HB2 := Lib.hid (bthen HB.out (bthen (box_below _ _) hb2))
          have HP2 := Lib.hid (show FirstP (lookI fs) f (j + 1) (firstF (lookI fs) k) from by
            rcases HP.out with ⟨_, h0, h1⟩ | ⟨h0, _⟩
            · by_cases hk : firstF (lookI fs) k = 0
              · exact .inl ⟨hk, h0, fun y hy => by
                  rw [take_snoc HJ.out] at hy
                  rcases List.mem_append.1 hy with hy | hy
                  · exact h1 y hy
                  · rw [List.mem_singleton.1 hy]; exact hk⟩
              · refine .inr ⟨hk, ?_⟩
                rw [HE.out, if_neg (by simp [h0])]
                exact (find_snoc h1 HJ.out hk).symm
            · exact absurd rfl h0)
          clear HP HB hb2 e0 e1 e2 e3 e4
          go_wp2_with fail
          go_roundw
          case rel => exact ⟨j + 1, _, by omega, by go_num, rfl, HP2, HB2⟩
          case measure => simp [intOf]; omega
        · have he' : (er != 0) = true := by simp [he]
          have HP2 := Lib.hid (show er = firstF (lookI fs) f from by
            rcases HP.out with ⟨h0, _⟩ | ⟨_, h0⟩
            · exact absurd h0 he
            · exact h0)
          go_wp2_with fail
          go_ret
          exact ⟨by rw [← HP2.out]; rfl, bthen HB.out (box_below _ _)⟩
      · obtain rfl : j = f.kids.length := by omega
        have HP2 := Lib.hid (show er = firstF (lookI fs) f from by
          rcases HP.out with ⟨h0, h1, h2⟩ | ⟨_, h0⟩
          · rw [HE.out, if_neg (by simp [h1]), List.find?_eq_none.2 (fun k hk => by
              have := h2 k (by rw [List.take_of_length_le (by simp)]; exact hk)
              simp [this])]
            exact h0
          · exact h0)
        go_wp2_with fail
        go_ret
        exact ⟨by rw [← HP2.out]; rfl, HB.out⟩
/-- What is wrong with a formula. -/
def checkF (fs : List Fc) (f : Fm) : Int := if largeB f = true then 2 else firstF (lookI fs) f
set_option maxRecDepth 100000 in
set_option maxHeartbeats 2000000 in
theorem check_any (S SD : Nat → Prop) (d : Nat) (f : Fm) (A : Option Addr) (c : Nat) (fs : List Fc) (v : Value) (w : World) (h : FmR S w d f (fv f A c)) (hn : nodesF f ≤ 100000) (hF : FcsAt SD w v fs) :
    Calls Tryz.prog 14 #[fmV f A c, .agg #[v]] w fun e w' => e = .returned (.int .i64 (checkF fs f)) ∧ Below w.heap.size w w' := by
  obtain ⟨AD, cD, rfl, _⟩ := id hF
  have HC := Lib.hid (show checkF fs f = _ from rfl)
  have H := Lib.hid h
  have HF := Lib.hid hF
  clear h hF
  go_enter Tryz.func14, Tryz.ntmps14
  go_wp2_with fail
  have hb0 : Below w.heap.size w ((w.alloc (.cells #[.int .i64 f.op, .string f.name, .int .i64 f.cmp, .int .i64 f.n, .slice A f.kids.length c] 24)).alloc (.cells #[.slice AD fs.length cD] 27)) := ((Below.refl _ _).alloc (Nat.le_refl _) _).alloc (by simp) _
  have hfb := old_ (new_ w (.cells #[.int .i64 f.op, .string f.name, .int .i64 f.cmp, .int .i64 f.n, .slice A f.kids.length c] 24)) (o := .cells #[.slice AD fs.length cD] 27)
  have hdb := new_ (w.alloc (.cells #[.int .i64 f.op, .string f.name, .int .i64 f.cmp, .int .i64 f.n, .slice A f.kids.length c] 24)) (.cells #[.slice AD fs.length cD] 27)
  have HB0 := Lib.hid hb0
  refine (large_any (fun b => S b ∧ b < w.heap.size) d f A c _ (H.out.keep hb0.size (Agree.of_below hb0) (fun _ hb hs => ⟨hs, hb⟩)) hn).mono ?_
  rintro e w1 ⟨rfl, hb1⟩
  have HB1 := Lib.hid (bthen HB0.out hb1)
  have HFB := Lib.hid (below_ hb1 hfb)
  have HDB := Lib.hid (below_ hb1 hdb)
  clear hfb hdb hb1 hb0
  cases hl : largeB f
  · have HV := Lib.hid (show checkF fs f = firstF (lookI fs) f by simp [checkF, hl])
    obtain ⟨s0, s1, s2, s3, s4, _⟩ := five_ HFB.out
    have hlt := blt_ HFB.out
    clear hl
    go_wp2_with fail
    refine (first_any _ AD cD fs d (fun b => S b ∧ b < w.heap.size) (fun b => SD b ∧ b < w.heap.size) f A c w1 (H.out.keep HB1.out.size (Agree.of_below HB1.out) (fun _ hb hs => ⟨hs, hb⟩)) hn ⟨by simpa using HDB.out, HF.out.keep HB1.out.size (Agree.of_below HB1.out) (fun _ hb hs => ⟨hs, hb⟩)⟩).mono ?_
    rintro e w2 ⟨rfl, hb2⟩
    have HB2 := Lib.hid (bthen HB1.out hb2)
    clear hb2
    go_wp2_with fail
    go_ret
    exact ⟨by rw [HV.out]; rfl, HB2.out⟩
  · have HV := Lib.hid (show checkF fs f = 2 by simp [checkF, hl])
    go_wp2_with fail
    go_ret
    exact ⟨by rw [HV.out]; rfl, HB1.out⟩
end Go.Proofs.YtfajbcjcigajfaaGreatDoor
namespace Go.Proofs.YtfajbcjcigajfaaGreatDoor
open Go.RowKit

def inF (x : Fc) (v : Int) : Bool := decide (x.lo ≤ v) && decide (v ≤ x.hi)
/-- Each value lies in its fact's range. -/
def rangeF (fs : List Fc) (c : List Int) : Bool := (List.zipWith inF fs c).all id
def fitsF (fs : List Fc) (c : List Int) : Bool := validD fs && decide (c.length = fs.length) && rangeF fs c
theorem range_no {fs : List Fc} {c : List Int} {j : Nat} {x : Fc} {v : Int} (hx : fs[j]? = some x) (hv : c[j]? = some v) (h : inF x v = false) : rangeF fs c = false := by
  rw [Bool.eq_false_iff]
  intro ha
  have := List.all_eq_true.1 ha (inF x v) (List.mem_iff_getElem?.2 ⟨j, by rw [List.getElem?_zipWith, hx, hv]⟩)
  rw [h] at this; cases this
theorem range_yes {fs : List Fc} {c : List Int} (_hl : c.length = fs.length) (h : ∀ (j : Nat) x v, fs[j]? = some x → c[j]? = some v → inF x v = true) : rangeF fs c = true := by
  unfold rangeF
  rw [List.all_eq_true]
  intro b hb
  obtain ⟨j, hj⟩ := List.mem_iff_getElem?.1 hb
  rw [List.getElem?_zipWith] at hj
  cases h1 : fs[j]? with
  | none => rw [h1] at hj; simp at hj
  | some x =>
    cases h2 : c[j]? with
    | none => rw [h1, h2] at hj; simp at hj
    | some v => rw [h1, h2] at hj; simp at hj; rw [← hj]; exact h j x v h1 h2
theorem box_drew (w : World) (o : Obj) (n : Nat) : Below w.heap.size w ((w.alloc o).drewN n) := (box_below w o).trans ⟨rfl, rfl, rfl, Nat.le_refl _, fun _ _ => rfl⟩
/-- One element of a row of ints. -/
theorem int_cell {S : Nat → Prop} {w : World} {A : Option Addr} {c : Nat} {xs : List Int} (h : IntsAt S w (.slice A xs.length c) xs) {j : Nat} (hj : j < xs.length) : ∃ b o, A = some ⟨b, o, none⟩ ∧ S b ∧ b < w.heap.size ∧ w.cell? ⟨b, o + j, none⟩ = some (.int .i64 xs[j]) ∧ I64 xs[j] := by
  obtain ⟨A', c', he, _, h⟩ := h
  simp only [Value.slice.injEq] at he
  obtain ⟨rfl, _, _⟩ := he
  obtain ⟨b, o, rfl, hS, hb, hc⟩ := h.2 (by omega)
  obtain ⟨cs, _, ⟨rfl, hi⟩, hcc⟩ := hc j xs[j] (List.getElem?_eq_getElem hj)
  exact ⟨b, o, rfl, hS, hb, by simpa using hcc 0 _ rfl, hi⟩
theorem fc_cells {S : Nat → Prop} {w : World} {A : Option Addr} {c : Nat} {xs : List Fc} (h : FcsAt S w (.slice A xs.length c) xs) {j : Nat} (hj : j < xs.length) :
    ∃ b o, A = some ⟨b, o, none⟩ ∧ S b ∧ b < w.heap.size ∧ w.cell? ⟨b, o + j * 4, none⟩ = some (.string xs[j].name) ∧ w.cell? ⟨b, o + j * 4 + 1, none⟩ = some (.int .i64 xs[j].kind) ∧ w.cell? ⟨b, o + j * 4 + 2, none⟩ = some (.int .i64 xs[j].lo) ∧ w.cell? ⟨b, o + j * 4 + 3, none⟩ = some (.int .i64 xs[j].hi) ∧ I64 xs[j].kind ∧ I64 xs[j].lo ∧ I64 xs[j].hi ∧ xs[j].name.size ≤ 140737488351232 := by
  obtain ⟨A', c', he, _, h⟩ := h
  simp only [Value.slice.injEq] at he
  obtain ⟨rfl, _, _⟩ := he
  obtain ⟨b, o, rfl, hS, hb, hc⟩ := h.2 (by omega)
  obtain ⟨cs, _, ⟨rfl, hi⟩, hcc⟩ := hc j xs[j] (List.getElem?_eq_getElem hj)
  exact ⟨b, o, rfl, hS, hb, hcc 0 _ rfl, hcc 1 _ rfl, hcc 2 _ rfl, hcc 3 _ rfl, hi⟩
set_option maxRecDepth 100000 in
set_option maxHeartbeats 2000000 in
theorem fits_any (S SC : Nat → Prop) (fs : List Fc) (cs : List Int) (v vc : Value) (w : World) (hx : FcsAt S w v fs) (hc : IntsAt SC w vc cs) :
    Calls Tryz.prog 16 #[.agg #[v], vc] w (BoolE (fitsF fs cs) w) := by
  obtain ⟨A, c, rfl, _⟩ := id hx
  obtain ⟨AC, cc, rfl, _⟩ := id hc
  have hl := SliceAt.len hx
  have hl2 := SliceAt.len hc
  unfold N44 at hl hl2
  have HX := Lib.hid hx
  have HC := Lib.hid hc
  clear hx hc
  go_enter Tryz.func16, Tryz.ntmps16
  go_wp2_with fail
  refine (validFact_any (fun b => S b ∧ b < w.heap.size) fs _ _ (HX.out.keep (box_below w _).size (Agree.of_below (box_below _ _)) (fun _ hb hs => ⟨hs, hb⟩))).mono ?_
  rintro e w1 ⟨rfl, hb⟩
  have HB := Lib.hid (bthen (box_below _ _) hb)
  have HD := Lib.hid (below_ hb (new_ w _))
  obtain ⟨s0, _⟩ := one_ HD.out
  have hlt := blt_ HD.out
  clear hb
  cases hv : validD fs
  · have HV := Lib.hid (show fitsF fs cs = false by simp [fitsF, hv])
    clear hv
    go_wp2_with fail
    go_ret
    exact ⟨by rw [HV.out]; rfl, HB.out⟩
  · by_cases hn : cs.length = fs.length
    · have hn' : ((cs.length : Int) != (fs.length : Int)) = false := by simp [hn]
      have HV := Lib.hid (show fitsF fs cs = rangeF fs cs by simp [fitsF, hv, hn])
      have HN := Lib.hid hn
      clear hv
      go_wp2_with fail
      go_loopw [5, 6, 21] (fun _ _ v wr => ∃ j : Nat, j ≤ fs.length ∧ v = .int .i64 j ∧ Hid (∀ i x v, i < j → fs[i]? = some x → cs[i]? = some v → inF x v = true) ∧ Hid (Below w.heap.size w wr)) (fun _ _ v _ => fs.length - (intOf v).toNat)
      case atStart => exact ⟨0, Nat.zero_le _, rfl, Lib.hid (fun i x v h => by omega), HB⟩
      case round =>
        clear HB HD s0 hlt
        obtain ⟨j, hj, rfl, HA, HB⟩ := hrel
        by_cases hlt : j < fs.length
        · have hltc : j < cs.length := by omega
          obtain ⟨b, o, rfl, hSb, hb, e0, e1, e2, e3, i1, i2, i3, _⟩ := fc_cells (HX.out.keep HB.out.size (Agree.of_below HB.out) (fun _ hb hs => (⟨hs, hb⟩ : S _ ∧ _ < w.heap.size))) hlt
          obtain ⟨bc, oc, rfl, hSc, hbc, k0, ki⟩ := int_cell (HC.out.keep HB.out.size (Agree.of_below HB.out) (fun _ hb hs => (⟨hs, hb⟩ : SC _ ∧ _ < w.heap.size))) hltc
          have HF := Lib.hid (List.getElem?_eq_getElem hlt)
          have HG := Lib.hid (List.getElem?_eq_getElem hltc)
          generalize fs[j] = x at *
          generalize cs[j] = y at *
          have hjc : (j : Int) < (cs.length : Int) := by omega
          have hjs : (j : Int) < (fs.length : Int) := by omega
          by_cases h1 : y < x.lo
          · have HI := Lib.hid (show inF x y = false by simp [inF]; intro h; omega)
            go_wp2_with fail
            go_quiet (fail)
            go_wp2_with fail
            go_ret
            exact ⟨by rw [HV.out, range_no HF.out HG.out HI.out]; rfl, bthen HB.out (box_drew _ _ _)⟩
          · have h1' : decide (y < x.lo) = false := decide_eq_false h1
            by_cases h2 : x.hi < y
            · have HI := Lib.hid (show inF x y = false by simp [inF]; intro h; omega)
              go_wp2_with fail
              go_quiet (fail)
              go_wp2_with fail
              go_ret
              exact ⟨by rw [HV.out, range_no HF.out HG.out HI.out]; rfl, bthen HB.out (box_drew _ _ _)⟩
            · have h2' : decide (x.hi < y) = false := decide_eq_false h2
              have HI := Lib.hid (show inF x y = true by simp [inF]; omega)
              go_wp2_with fail
              go_quiet (fail)
              go_wp2_with fail
              go_roundw
              case rel =>
                refine ⟨j + 1, by omega, by go_num, Lib.hid (fun i x' v' hi hx' hv' => ?_), Lib.hid (bthen HB.out (box_drew _ _ _))⟩
                by_cases hij : i < j
                · exact HA.out i x' v' hij hx' hv'
                · obtain rfl : i = j := by omega
                  rw [HF.out] at hx'; rw [HG.out] at hv'
                  injection hx' with hx'; injection hv' with hv'
                  subst hx' hv'; exact HI.out
              case measure => simp [intOf]; omega
        · obtain rfl : j = fs.length := by omega
          have HR := Lib.hid (show fitsF fs cs = true by
            rw [HV.out]
            exact range_yes HN.out (fun i x v h1 h2 => HA.out i x v (List.getElem?_eq_some_iff.1 h1).1 h1 h2))
          go_wp2_with fail
          go_ret
          exact ⟨by rw [HR.out]; rfl, HB.out⟩
    · have hn' : ((cs.length : Int) != (fs.length : Int)) = true := by simp; omega
      have HV := Lib.hid (show fitsF fs cs = false by simp [fitsF, hn])
      clear hv
      go_wp2_with fail
      go_ret
      exact ⟨by rw [HV.out]; rfl, HB.out⟩
end Go.Proofs.YtfajbcjcigajfaaGreatDoor
