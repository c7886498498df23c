/- Part of the proof of a law of customhouselaw26: the texts E2 E3 E4 E5. -/
import Derived.Deep.DeepCutAuto
import Derived.Test.YtfajbcjcigajfaaGreatDoorMD4D5E1
namespace Go.Proofs.YtfajbcjcigajfaaGreatDoor
open Go.RowKit

theorem info3 : (Tryz.prog.info? 3).map (fun i => (i.zero, i.size, i.bytes)) = some (some (.int .i64 0), 1, 8) := by kernel_rfl
def leastL (fs : List Fc) : List Int := if validD fs = true then fs.map (·.lo) else []
set_option maxRecDepth 100000 in
set_option maxHeartbeats 2000000 in
theorem factLeast_any (S : Nat → Prop) (fs : List Fc) (v : Value) (w : World) (hx : FcsAt S w v fs) :
    Calls Tryz.prog 61 #[.agg #[v]] w fun e w' => ∃ vo, e = .returned vo ∧ OwnAt w' w.heap.size 3 1 IntR vo (leastL fs) ∧ Below w.heap.size w w' := by
  obtain ⟨A, c, rfl, _⟩ := id hx
  have hl := SliceAt.len hx
  unfold N44 at hl
  have HX := Lib.hid hx
  clear hx
  go_enter Tryz.func61, Tryz.ntmps61
  go_wp2_with fail
  refine (validFact_any (fun b => S b ∧ b < w.heap.size) fs _ _ (HX.out.keep (box_below w _).size (Agree.of_below (box_below _ _)) (fun _ hb hs => ⟨hs, hb⟩))).mono ?_
  rintro e w1 ⟨rfl, hb⟩
  have HB := Lib.hid (bthen (box_below _ _) hb)
  have HD := Lib.hid (below_ hb (new_ w _))
  obtain ⟨s0, _⟩ := one_ HD.out
  have hlt := blt_ HD.out
  clear hb
  cases hv : validD fs
  · have HV := Lib.hid (show leastL fs = [] by simp [leastL, hv])
    go_wp2_with fail
    go_ret
    exact ⟨_, rfl, by rw [HV.out]; exact OwnAt.nil _ _ _ _ _, HB.out⟩
  · have HV := Lib.hid (show leastL fs = fs.map (·.lo) by simp [leastL, hv])
    have h60 : fs.length ≤ 60 := by have := (Bool.and_eq_true_iff.1 hv).2; simpa using this
    go_wp2_with fail
    go_loopw [3, 12] (fun vo v wr => ∃ (j : Nat) (l : List Int), j ≤ fs.length ∧ v = .int .i64 j ∧ Hid (l = (fs.take j).map (·.lo)) ∧ Hid (OwnAt wr w.heap.size 3 1 IntR vo l) ∧ Hid (Below w.heap.size w wr)) (fun _ v _ => fs.length - (intOf v).toNat)
    case atStart => exact ⟨0, [], Nat.zero_le _, rfl, Lib.hid rfl, Lib.hid (OwnAt.nil _ _ _ _ _), HB⟩
    case round =>
      clear HB HD s0 hlt
      obtain ⟨j, l, hj, rfl, HL, HO, HB⟩ := hrel
      have hlen : l.length = j := by rw [HL.out]; simp; omega
      obtain ⟨Ao, co, hvo⟩ := HO.out.shape
      subst hvo
      by_cases hlt : j < fs.length
      · obtain ⟨b, o, rfl, hSb, hb, e0, e1, e2, e3, i1, i2, i3, _⟩ := fc_cells (HX.out.keep HB.out.size (Agree.of_below HB.out) (fun _ hb hs => (⟨hs, hb⟩ : S _ ∧ _ < w.heap.size))) hlt
        have HT := Lib.hid (show l ++ [fs[j].lo] = (fs.take (j + 1)).map (·.lo) by rw [take_snoc (List.getElem?_eq_getElem hlt), List.map_append, HL.out]; rfl)
        generalize fs[j] = x at *
        have hjs : (j : Int) < (fs.length : Int) := by omega
        go_wp2_with (at_builtin; refine app_one (R := IntR) w.heap.size rfl (.tmp 16) (.tmp 19) 29 3 _ 1 8 rfl Tryz.underlying29 info3 rfl (by decide) (by decide) (.slice Ao l.length co) l x.lo [.int .i64 x.lo] rfl (wr.heap.size + 1) rfl ?c0 rfl (by simp [Value.oneCell']) ?c1 ?c2 ?c3 ?_)
        case c0 => simp
        case c1 => exact HO.out.keep (fun k _ hk => Below.heap_alloc _ _ _ hk) (fun _ _ _ h => h)
        case c2 => have := HB.out.size; simp; omega
        case c3 => omega
        intro v1 w4 hown hg hat
        have HO4 := Lib.hid (hown IntR (fun _ _ _ h => h) ⟨rfl, i2⟩)
        have HB4 := Lib.hid (Below.grown (HB.out.alloc HB.out.size (.cells #[.string x.name, .int .i64 x.kind, .int .i64 x.lo, .int .i64 x.hi] 82)) hg (by have := HB.out.size; simp; omega) (fun k hk => own_base HO.out (by rw [hlen]; exact hk)))
        clear hown hg hat HO HB
        go_wp2_with fail
        go_roundw
        case rel => exact ⟨j + 1, l ++ [x.lo], by omega, by go_num, HT, HO4, HB4⟩
        case measure => simp [intOf]; omega
      · obtain rfl : j = fs.length := by omega
        go_wp2_with fail
        go_ret
        exact ⟨_, rfl, by have h := HL.out; rw [List.take_length] at h; rw [HV.out, ← h]; exact HO.out, HB.out⟩
end Go.Proofs.YtfajbcjcigajfaaGreatDoor
namespace Go.Proofs.YtfajbcjcigajfaaGreatDoor
open Go.RowKit

/-- Whether a formula holds where a fact of a name has the value g name. -/
def evF (g : ByteArray → Int) (f : Fm) : Bool :=
  if f.op = 3 then cmpB (g f.name) f.cmp f.n
  else if f.op = 4 then !((f.kids.map fun k => evF g k).headD false)
  else if f.op = 5 then (f.kids.map fun k => evF g k).all id
  else if f.op = 6 then (f.kids.map fun k => evF g k).any id
  else f.op == 1
termination_by f
decreasing_by all_goals (cases f; simp_wf; rename_i h; have := List.sizeOf_lt_of_mem h; simp_all; omega)
theorem evF_eq (g : ByteArray → Int) (f : Fm) : evF g f =
  if f.op = 3 then cmpB (g f.name) f.cmp f.n
  else if f.op = 4 then !((f.kids.map (evF g)).headD false)
  else if f.op = 5 then (f.kids.map (evF g)).all id
  else if f.op = 6 then (f.kids.map (evF g)).any id
  else f.op == 1 := by rw [evF]
/-- The value of a fact in a case. -/
def valF (fs : List Fc) (c : List Int) (nm : ByteArray) : Int := c.getD (idxI (sameName nm) fs).toNat 0
/-- The boxes of the closure that evaluates. -/
structure HEnv (S : Nat → Prop) (w : World) (bc bd bh : Nat) (AC : Option Addr) (cc : Nat) (cs : List Int) (AD : Option Addr) (cD : Nat) (fs : List Fc) : Prop where
  c : w.heap[bc]? = some (.cells #[.slice AC cs.length cc] 29 (0, 0))
  cr : IntsAt S w (.slice AC cs.length cc) cs
  d : DomAt S w bd AD cD fs
  h : w.heap[bh]? = some (.cells #[.func (Fn.func 58) #[] #[.pointer (some ⟨bc, 0, none⟩), .pointer (some ⟨bd, 0, none⟩), .pointer (some ⟨bh, 0, none⟩)]] 87 (0, 0))
theorem HEnv.keep {S : Nat → Prop} {w w' : World} {bc bd bh : Nat} {AC : Option Addr} {cc : Nat} {cs : List Int} {AD : Option Addr} {cD : Nat} {fs : List Fc} (h : HEnv S w bc bd bh AC cc cs AD cD fs) (hb : Below w.heap.size w w') : HEnv (fun b => S b ∧ b < w.heap.size) w' bc bd bh AC cc cs AD cD fs :=
  ⟨below_ hb h.c, h.cr.keep hb.size (Agree.of_below hb) (fun _ hb hs => ⟨hs, hb⟩), h.d.keep hb, below_ hb h.h⟩
theorem any_idxI {α : Type} (p : α → Bool) (xs : List α) : xs.any p = decide (0 ≤ idxI p xs) := by
  unfold idxI
  cases h : xs.findIdx? p with
  | none =>
    rw [List.findIdx?_eq_none_iff] at h
    simp only [show ¬ (0 : Int) ≤ -1 by omega, decide_false]
    rw [Bool.eq_false_iff]
    intro h2
    obtain ⟨x, hx, hp⟩ := List.any_eq_true.1 h2
    have := h x hx
    rw [hp] at this; cases this
  | some i =>
    rw [List.findIdx?_eq_some_iff_getElem] at h
    obtain ⟨hlt, hp, _⟩ := h
    simp only [show (0 : Int) ≤ (i : Int) by omega, decide_true]
    exact List.any_eq_true.2 ⟨_, List.getElem_mem hlt, hp⟩
/-- What the callee is to answer at each kid. -/
def Ask58 (bc bd bh : Nat) (d : Nat) (p : Fm → Bool) (ks : List Fm) (w : World) : Prop :=
  ∀ (S : Nat → Prop) (k : Fm) (A : Option Addr) (c : Nat) (w' : World), k ∈ ks → Below w.heap.size w w' → FmR S w' d k (fv k A c) → Calls Tryz.prog 58 #[fmV k A c, .pointer (some ⟨bc, 0, none⟩), .pointer (some ⟨bd, 0, none⟩), .pointer (some ⟨bh, 0, none⟩)] w' (BoolE (p k) w')
set_option maxRecDepth 100000 in
set_option maxHeartbeats 2000000 in
theorem idxFm58 (bc bd bh : Nat) (S : Nat → Prop) (d : Nat) (p : Fm → Bool) (ks : List Fm) (A : Option Addr) (c : Nat) (w : World) (hr : RowAt S w 5 (FmR S w d) A ks) (hn : ks.length ≤ 100000) (ha : Ask58 bc bd bh d p ks w) :
    Calls Tryz.prog 105 #[.slice A ks.length c, .func (Fn.func 58) #[] #[.pointer (some ⟨bc, 0, none⟩), .pointer (some ⟨bd, 0, none⟩), .pointer (some ⟨bh, 0, none⟩)]] w fun e w' => e = .returned (.int .i64 (idxI p ks)) ∧ Below w.heap.size w w' := by
  have HR := Lib.hid hr
  have HA := Lib.hid ha
  clear hr ha
  go_enter Tryz.func105, Tryz.ntmps105
  go_wp2_with fail
  go_loopw [5, 8] (fun _ v wr => ∃ j : Nat, j ≤ ks.length ∧ v = .int .i64 j ∧ Hid (∀ x ∈ ks.take j, p x = false) ∧ Hid (Below w.heap.size w wr)) (fun _ v _ => ks.length - (intOf v).toNat)
  case atStart => exact ⟨0, Nat.zero_le _, rfl, Lib.hid (fun x h => by simp at h), Lib.hid (Below.refl _ _)⟩
  case round =>
    obtain ⟨j, hj, rfl, HN, HB⟩ := hrel
    by_cases hlt : j < ks.length
    · have hr := HR.out.keep' HB.out.size (Agree.of_below HB.out)
      obtain ⟨b, o, A', c', rfl, hSb, hb, hR, e0, e1, e2, e3, e4⟩ := kid_cells hr hlt
      have hmem : ks[j] ∈ ks := List.getElem_mem hlt
      have HF := Lib.hid (List.getElem?_eq_getElem hlt)
      generalize ks[j] = k at *
      have HK := Lib.hid hR
      clear hR hr
      go_wp2_with fail
      refine (HA.out _ k A' c' wr hmem HB.out HK.out).mono ?_
      rintro e w2 ⟨rfl, hb2⟩
      have HB2 := Lib.hid (bthen HB.out hb2)
      clear HB hb2 e0 e1 e2 e3 e4
      cases hp : p k
      · have HP := Lib.hid hp
        clear hp
        go_wp2_with fail
        go_roundw
        case rel => exact ⟨j + 1, by omega, by go_num, Lib.hid (nofirst_snoc HF.out HP.out HN.out), HB2⟩
        case measure => simp [intOf]; omega
      · have HP := Lib.hid hp
        clear hp
        go_wp2_with fail
        go_ret
        exact ⟨by rw [idxI_some HF.out HP.out HN.out]; rfl, HB2.out⟩
    · obtain rfl : j = ks.length := by omega
      have HI := Lib.hid (idxI_none (p := p) (xs := ks) (by have := HN.out; rw [List.take_length] at this; exact this))
      go_wp2_with fail
      go_ret
      exact ⟨by rw [HI.out]; rfl, HB.out⟩
set_option maxRecDepth 100000 in
set_option maxHeartbeats 2000000 in
theorem contFm58 (bc bd bh : Nat) (S : Nat → Prop) (d : Nat) (p : Fm → Bool) (ks : List Fm) (A : Option Addr) (c : Nat) (w : World) (hr : RowAt S w 5 (FmR S w d) A ks) (hn : ks.length ≤ 100000) (ha : Ask58 bc bd bh d p ks w) :
    Calls Tryz.prog 59 #[.slice A ks.length c, .func (Fn.func 58) #[] #[.pointer (some ⟨bc, 0, none⟩), .pointer (some ⟨bd, 0, none⟩), .pointer (some ⟨bh, 0, none⟩)]] w (BoolE (ks.any p) w) := by
  have HV := Lib.hid (any_idxI p ks)
  go_enter Tryz.func59, Tryz.ntmps59
  go_wp2_with fail
  refine (idxFm58 bc bd bh S d p ks A c w hr hn ha).mono ?_
  rintro e w1 ⟨rfl, hb⟩
  have HB := Lib.hid hb
  clear hb hr ha
  go_wp2_with fail
  go_ret
  exact ⟨by rw [HV.out]; rfl, HB.out⟩
/-- What the callee is to answer at each kid. -/
def Ask60 (bh : Nat) (d : Nat) (p : Fm → Bool) (ks : List Fm) (w : World) : Prop :=
  ∀ (S : Nat → Prop) (k : Fm) (A : Option Addr) (c : Nat) (w' : World), k ∈ ks → Below w.heap.size w w' → FmR S w' d k (fv k A c) → Calls Tryz.prog 60 #[fmV k A c, .pointer (some ⟨bh, 0, none⟩)] w' (BoolE (p k) w')
set_option maxRecDepth 100000 in
set_option maxHeartbeats 2000000 in
theorem idxFm60 (bh : Nat) (S : Nat → Prop) (d : Nat) (p : Fm → Bool) (ks : List Fm) (A : Option Addr) (c : Nat) (w : World) (hr : RowAt S w 5 (FmR S w d) A ks) (hn : ks.length ≤ 100000) (ha : Ask60 bh d p ks w) :
    Calls Tryz.prog 105 #[.slice A ks.length c, .func (Fn.func 60) #[] #[.pointer (some ⟨bh, 0, none⟩)]] w fun e w' => e = .returned (.int .i64 (idxI p ks)) ∧ Below w.heap.size w w' := by
  have HR := Lib.hid hr
  have HA := Lib.hid ha
  clear hr ha
  go_enter Tryz.func105, Tryz.ntmps105
  go_wp2_with fail
  go_loopw [5, 8] (fun _ v wr => ∃ j : Nat, j ≤ ks.length ∧ v = .int .i64 j ∧ Hid (∀ x ∈ ks.take j, p x = false) ∧ Hid (Below w.heap.size w wr)) (fun _ v _ => ks.length - (intOf v).toNat)
  case atStart => exact ⟨0, Nat.zero_le _, rfl, Lib.hid (fun x h => by simp at h), Lib.hid (Below.refl _ _)⟩
  case round =>
    obtain ⟨j, hj, rfl, HN, HB⟩ := hrel
    by_cases hlt : j < ks.length
    · have hr := HR.out.keep' HB.out.size (Agree.of_below HB.out)
      obtain ⟨b, o, A', c', rfl, hSb, hb, hR, e0, e1, e2, e3, e4⟩ := kid_cells hr hlt
      have hmem : ks[j] ∈ ks := List.getElem_mem hlt
      have HF := Lib.hid (List.getElem?_eq_getElem hlt)
      generalize ks[j] = k at *
      have HK := Lib.hid hR
      clear hR hr
      go_wp2_with fail
      refine (HA.out _ k A' c' wr hmem HB.out HK.out).mono ?_
      rintro e w2 ⟨rfl, hb2⟩
      have HB2 := Lib.hid (bthen HB.out hb2)
      clear HB hb2 e0 e1 e2 e3 e4
      cases hp : p k
      · have HP := Lib.hid hp
        clear hp
        go_wp2_with fail
        go_roundw
        case rel => exact ⟨j + 1, by omega, by go_num, Lib.hid (nofirst_snoc HF.out HP.out HN.out), HB2⟩
        case measure => simp [intOf]; omega
      · have HP := Lib.hid hp
        clear hp
        go_wp2_with fail
        go_ret
        exact ⟨by rw [idxI_some HF.out HP.out HN.out]; rfl, HB2.out⟩
    · obtain rfl : j = ks.length := by omega
      have HI := Lib.hid (idxI_none (p := p) (xs := ks) (by have := HN.out; rw [List.take_length] at this; exact this))
      go_wp2_with fail
      go_ret
      exact ⟨by rw [HI.out]; rfl, HB.out⟩
set_option maxRecDepth 100000 in
set_option maxHeartbeats 2000000 in
theorem contFm60 (bh : Nat) (S : Nat → Prop) (d : Nat) (p : Fm → Bool) (ks : List Fm) (A : Option Addr) (c : Nat) (w : World) (hr : RowAt S w 5 (FmR S w d) A ks) (hn : ks.length ≤ 100000) (ha : Ask60 bh d p ks w) :
    Calls Tryz.prog 59 #[.slice A ks.length c, .func (Fn.func 60) #[] #[.pointer (some ⟨bh, 0, none⟩)]] w (BoolE (ks.any p) w) := by
  have HV := Lib.hid (any_idxI p ks)
  go_enter Tryz.func59, Tryz.ntmps59
  go_wp2_with fail
  refine (idxFm60 bh S d p ks A c w hr hn ha).mono ?_
  rintro e w1 ⟨rfl, hb⟩
  have HB := Lib.hid hb
  clear hb hr ha
  go_wp2_with fail
  go_ret
  exact ⟨by rw [HV.out]; rfl, HB.out⟩
set_option maxRecDepth 100000 in
set_option maxHeartbeats 2000000 in
theorem not_any (bc bd bh : Nat) (S : Nat → Prop) (d : Nat) (p : Fm → Bool) (ks : List Fm) (AC : Option Addr) (cc : Nat) (cs : List Int) (AD : Option Addr) (cD : Nat) (fs : List Fc) (w : World) (he : HEnv S w bc bd bh AC cc cs AD cD fs) (ha : Ask58 bc bd bh d p ks w) :
    Ask60 bh d (fun k => !p k) ks w := by
  intro S' k A c w' hk hb hf
  have he2 := below_ hb he.h
  obtain ⟨h0, h1⟩ := one_ he2
  have hlt := blt_ he2
  go_enter Tryz.func60, Tryz.ntmps60
  go_wp2_with fail
  refine (ha _ k A c _ hk (bthen hb (box_below _ _)) (hf.keep (box_below w' _).size (Agree.of_below (box_below _ _)) (fun _ hb hs => (⟨hs, hb⟩ : S' _ ∧ _ < w'.heap.size)))).mono ?_
  rintro e w2 ⟨rfl, hb2⟩
  have HB := Lib.hid (bthen (box_below _ _) hb2)
  clear hb2
  go_wp2_with fail
  go_ret
  exact ⟨rfl, HB.out⟩
end Go.Proofs.YtfajbcjcigajfaaGreatDoor
namespace Go.Proofs.YtfajbcjcigajfaaGreatDoor
open Go.RowKit

/-- Each node of a formula is so. -/
def AllF (p : Fm → Prop) (f : Fm) : Prop := p f ∧ ∀ k ∈ f.kids, AllF p k
termination_by f
decreasing_by (cases f; simp_wf; rename_i h; have := List.sizeOf_lt_of_mem h; simp_all; omega)
theorem AllF_eq (p : Fm → Prop) (f : Fm) : AllF p f ↔ (p f ∧ ∀ k ∈ f.kids, AllF p k) := by rw [AllF]
theorem first_all (look : Fm → Int) : ∀ (n : Nat) (f : Fm), nodesF f ≤ n → firstF look f = 0 → AllF (fun x => look x = 0) f
  | 0, f, h, _ => by rw [nodesF_eq] at h; omega
  | n + 1, f, h, h0 => by
    rw [AllF_eq]
    rw [firstF_eq] at h0
    by_cases hl : look f = 0
    · rw [if_neg (by simp [hl])] at h0
      refine ⟨hl, fun k hk => ?_⟩
      refine first_all look n k (by have := nodes_kid hk; omega) ?_
      cases hf : (f.kids.map (firstF look)).find? (· != 0) with
      | none =>
        rw [List.find?_eq_none] at hf
        have := hf (firstF look k) (List.mem_map.2 ⟨k, hk, rfl⟩)
        simpa using this
      | some x =>
        rw [hf] at h0
        have := List.find?_some hf
        simp at h0 this
        exact absurd h0 this
    · rw [if_pos hl] at h0; exact absurd h0 hl
theorem idxI_lt {α : Type} {p : α → Bool} {xs : List α} (h : ¬ idxI p xs < 0) : ∃ i : Nat, idxI p xs = i ∧ i < xs.length := by
  unfold idxI at h ⊢
  cases hi : xs.findIdx? p with
  | none => rw [hi] at h; simp at h
  | some i =>
    rw [List.findIdx?_eq_some_iff_getElem] at hi
    exact ⟨i, rfl, hi.1⟩
theorem look_ok {fs : List Fc} {f : Fm} (h : lookI fs f = 0) : formedB f.op f.name f.cmp f.n f.kids.length = true ∧ (f.op = 3 → 0 ≤ f.n ∧ f.n ≤ 1000000 ∧ ∃ i : Nat, idxI (sameName f.name) fs = i ∧ i < fs.length) := by
  unfold lookI at h
  cases hf : formedB f.op f.name f.cmp f.n f.kids.length
  · rw [hf] at h; simp at h
  · rw [hf, if_neg (by simp)] at h
    refine ⟨rfl, fun h3 => ?_⟩
    rw [if_neg (by simp [h3])] at h
    by_cases hn : f.n < 0 ∨ 1000000 < f.n
    · rw [if_pos hn] at h; simp at h
    · rw [if_neg hn] at h
      by_cases hi : idxI (sameName f.name) fs < 0
      · rw [if_pos hi] at h; simp at h
      · exact ⟨by omega, by omega, idxI_lt hi⟩
theorem formed_cmp {nm : ByteArray} {cp n : Int} {k : Nat} (h : formedB 3 nm cp n k = true) : 1 ≤ cp ∧ cp ≤ 6 := by
  simp only [formedB, if_true, Bool.and_eq_true, decide_eq_true_eq] at h
  exact ⟨h.1.1.1.2, h.1.1.2⟩
theorem formed_not {nm : ByteArray} {cp n : Int} {k : Nat} (h : formedB 4 nm cp n k = true) : k = 1 := by
  unfold formedB at h
  rw [if_neg (by decide)] at h
  split at h
  · rw [if_neg (by decide), if_pos rfl] at h; simpa using h
  · simp at h
theorem idx95_1 (v0 v1 v2 v3 v4 v5 v6 : Value) (W : World) : (Instr.index 95 (.agg #[v0, v1, v2, v3, v4, v5, v6]) (.int .i64 1)).run Tryz.prog W = .ok v1 W := by
  simp [go_sem, Instr.index]
theorem idx95_2 (v0 v1 v2 v3 v4 v5 v6 : Value) (W : World) : (Instr.index 95 (.agg #[v0, v1, v2, v3, v4, v5, v6]) (.int .i64 2)).run Tryz.prog W = .ok v2 W := by
  simp [go_sem, Instr.index]
theorem idx95_3 (v0 v1 v2 v3 v4 v5 v6 : Value) (W : World) : (Instr.index 95 (.agg #[v0, v1, v2, v3, v4, v5, v6]) (.int .i64 3)).run Tryz.prog W = .ok v3 W := by
  simp [go_sem, Instr.index]
theorem idx95_4 (v0 v1 v2 v3 v4 v5 v6 : Value) (W : World) : (Instr.index 95 (.agg #[v0, v1, v2, v3, v4, v5, v6]) (.int .i64 4)).run Tryz.prog W = .ok v4 W := by
  simp [go_sem, Instr.index]
theorem idx95_5 (v0 v1 v2 v3 v4 v5 v6 : Value) (W : World) : (Instr.index 95 (.agg #[v0, v1, v2, v3, v4, v5, v6]) (.int .i64 5)).run Tryz.prog W = .ok v5 W := by
  simp [go_sem, Instr.index]
theorem idx95_6 (v0 v1 v2 v3 v4 v5 v6 : Value) (W : World) : (Instr.index 95 (.agg #[v0, v1, v2, v3, v4, v5, v6]) (.int .i64 6)).run Tryz.prog W = .ok v6 W := by
  simp [go_sem, Instr.index]
set_option maxRecDepth 100000 in
set_option maxHeartbeats 4000000 in
theorem holds_test (S _SF : Nat → Prop) (_d : Nat) (f : Fm) (A : Option Addr) (c : Nat) (bc bd bh : Nat) (AC : Option Addr) (cc : Nat) (cs : List Int) (AD : Option Addr) (cD : Nat) (fs : List Fc) (w : World) (he : HEnv S w bc bd bh AC cc cs AD cD fs) (hl : cs.length = fs.length)
    (hlook : lookI fs f = 0) (h3 : f.op = 3) :
    Calls Tryz.prog 58 #[fmV f A c, .pointer (some ⟨bc, 0, none⟩), .pointer (some ⟨bd, 0, none⟩), .pointer (some ⟨bh, 0, none⟩)] w (BoolE (cmpB (valF fs cs f.name) f.cmp f.n) w) := by
  obtain ⟨hfo, h⟩ := look_ok hlook
  obtain ⟨hn0, hn1, i, hi, hil⟩ := h h3
  rw [h3] at hfo
  obtain ⟨hc1, hc6⟩ := formed_cmp hfo
  have hlc : i < cs.length := by omega
  obtain ⟨b, o, rfl, hSb, hb, k0, ki⟩ := int_cell he.cr hlc
  have HV := Lib.hid (show valF fs cs f.name = cs[i] by rw [valF, hi]; simp [hlc])
  generalize cs[i] = y at *
  obtain ⟨c0, _⟩ := one_ he.c
  obtain ⟨d0, _⟩ := one_ he.d.box
  have l1 := blt_ he.c
  have l2 := blt_ he.d.box
  have HE := Lib.hid he
  have hlc' : (i : Int) < (cs.length : Int) := by omega
  unfold fmV
  rw [h3]
  clear he hlook
  go_enter Tryz.func58, Tryz.ntmps58
  go_upto_region 3 with fail
  go_cut [6] (fun v6 wx => v6 = .int .i64 y ∧ Hid (Below w.heap.size w wx) ∧ Hid (wx.heap[w.heap.size]? = some (.cells #[.int .i64 3, .string f.name, .int .i64 f.cmp, .int .i64 f.n, .slice A f.kids.length c] 24 (0, 0))))
  case first =>
    go_region_with (first | (go_at_call 53; refine (index_any (fun b => S b ∧ b < w.heap.size) fs f.name _ _ (HE.out.d.row.keep (by simp) (Agree.of_below ((box_below w _).drew)) (fun _ hb hs => (⟨hs, hb⟩ : S _ ∧ _ < w.heap.size)))).mono ?_; rintro e w2 ⟨rfl, hb2⟩; have HB := Lib.hid (bthen ((box_below w _).drew) hb2); have HF := Lib.hid (below_ hb2 (new_ w _)); clear hb2; have c0' := (HB.out.cell (p := ⟨bc, 0, none⟩) l1).trans c0; have k0' := (HB.out.cell (p := ⟨b, o + i, none⟩) hb).trans k0; have hsz := HB.out.size; rw [hi]))
    all_goals (go_wp2_with fail; go_meet; exact ⟨rfl, HB, HF⟩)
  case rest =>
    obtain ⟨rfl, HB, HF⟩ := hcut
    obtain ⟨s0, s1, s2, s3, s4, _⟩ := five_ HF.out
    have hlt := blt_ HF.out
    clear HF HE h
    generalize f.cmp = cp at *
    rcases (show cp = 1 ∨ cp = 2 ∨ cp = 3 ∨ cp = 4 ∨ cp = 5 ∨ cp = 6 by omega) with rfl | rfl | rfl | rfl | rfl | rfl
    all_goals
      have x1 := @idx95_1
      have x2 := @idx95_2
      have x3 := @idx95_3
      have x4 := @idx95_4
      have x5 := @idx95_5
      have x6 := @idx95_6
      go_wp2_with fail
      go_ret
      exact ⟨by rw [HV.out]; rfl, HB.out⟩
/-- The formula is one that Check lets pass. -/
abbrev OkF (fs : List Fc) (f : Fm) : Prop := AllF (fun x => lookI fs x = 0) f
set_option maxRecDepth 100000 in
set_option maxHeartbeats 4000000 in
theorem eval_any (bc bd bh : Nat) (AC : Option Addr) (cc : Nat) (cs : List Int) (AD : Option Addr) (cD : Nat) (fs : List Fc) (hl : cs.length = fs.length) : ∀ (d : Nat) (S SE : Nat → Prop) (f : Fm) (A : Option Addr) (c : Nat) (w : World),
    HEnv SE w bc bd bh AC cc cs AD cD fs → FmR S w d f (fv f A c) → nodesF f ≤ 100000 → OkF fs f →
    Calls Tryz.prog 58 #[fmV f A c, .pointer (some ⟨bc, 0, none⟩), .pointer (some ⟨bd, 0, none⟩), .pointer (some ⟨bh, 0, none⟩)] w (BoolE (evF (valF fs cs) f) w) := by
  intro d
  induction d with
  | zero => intro S SE f A c w _ h; exact h.elim
  | succ d ih =>
    intro S SE f A c w he h hn hok
    rw [OkF, AllF_eq] at hok
    obtain ⟨hlook, hkids⟩ := hok
    have hEV := evF_eq (valF fs cs) f
    by_cases h3 : f.op = 3
    · rw [hEV, if_pos h3]
      exact holds_test SE SE d f A c bc bd bh AC cc cs AD cD fs w he hl hlook h3
    · rw [if_neg h3] at hEV
      obtain ⟨hk, _, _, _, hs⟩ := fm_kids h
      have hkl := kids_len f
      have hask : Ask58 bc bd bh d (evF (valF fs cs)) f.kids w := fun S' k A' c' w' hk hb hf => ih S' _ k A' c' w' (he.keep hb) hf (by have := nodes_kid hk; omega) (hkids k hk)
      obtain ⟨hfo, _⟩ := look_ok hlook
      have h3' : (f.op == 3) = false := by simp [h3]
      have hh0 := he.h
      have hlh := blt_ hh0
      by_cases h4 : f.op = 4
      · rw [h4] at hfo
        have h1 := formed_not hfo
        rw [hEV, if_pos h4]
        have hj : 0 < f.kids.length := by omega
        have hAll := hk
        obtain ⟨b, o, A', c', rfl, hSb, hb, hR, e0, e1, e2, e3, e4⟩ := kid_cells hk hj
        have hmem : f.kids[0] ∈ f.kids := List.getElem_mem hj
        have HV := Lib.hid (show (!((f.kids.map (evF (valF fs cs))).headD false)) = !(evF (valF fs cs) f.kids[0]) by
          rw [List.headD_eq_head?_getD, List.head?_map, List.head?_eq_getElem?, List.getElem?_eq_getElem hj]; rfl)
        generalize f.kids[0] = k at *
        obtain ⟨g0, _⟩ := one_ hh0
        have HR := Lib.hid hR
        have HASK := Lib.hid hask
        simp only [Nat.zero_mul, Nat.add_zero] at e0 e1 e2 e3 e4
        unfold fmV
        rw [h4, h1]
        clear hEV hkids hlook he h hask hk hAll ih hR
        go_enter Tryz.func58, Tryz.ntmps58
        go_upto_region 6 with fail
        go_cut [5] (fun v5 wx => v5 = .bool (!(evF (valF fs cs) k)) ∧ Hid (Below w.heap.size w wx))
        case first =>
          go_region_with (first | (go_at_call 58; refine (HASK.out _ k A' c' _ hmem ((box_below w _).drew) (HR.out.keep (by simp) (Agree.of_below ((box_below w _).drew)) (fun _ hb hs => (⟨hs, hb⟩ : S _ ∧ _ < w.heap.size)))).mono ?_; rintro e w2 ⟨rfl, hb2⟩; have HB := Lib.hid (bthen ((box_below w _).drew) hb2); clear hb2))
          all_goals (go_wp2_with fail; go_meet; exact ⟨rfl, HB⟩)
        case rest =>
          obtain ⟨rfl, HB⟩ := hcut
          go_wp2_with fail
          go_ret
          exact ⟨by rw [HV.out]; rfl, HB.out⟩
      · rw [if_neg h4] at hEV
        have h4' : (f.op == 4) = false := by simp [h4]
        by_cases h5 : f.op = 5
        · rw [if_pos h5] at hEV
          have HV := Lib.hid (show evF (valF fs cs) f = !(f.kids.any fun k => !(evF (valF fs cs) k)) by
            rw [hEV]
            simp only [List.all_map, List.not_any_eq_all_not]
            congr 1
            funext x; simp)
          have HK := Lib.hid hk
          have HNA := Lib.hid (not_any bc bd bh SE d _ f.kids AC cc cs AD cD fs w he hask)
          unfold fmV
          rw [h5]
          clear hEV hkids hlook he h hask hk ih hfo
          go_enter Tryz.func58, Tryz.ntmps58
          go_wp2_with fail
          refine (contFm60 bh (fun b => S b ∧ b < w.heap.size) d (fun k => !(evF (valF fs cs) k)) f.kids A c _ (HK.out.keep' (by simp) (Agree.of_below (box_below _ _))) (by omega) (fun S' k A' c' w' hk' hb' hf' => HNA.out S' k A' c' w' hk' (bthen (box_below _ _) hb') hf')).mono ?_
          rintro e w2 ⟨rfl, hb2⟩
          have HB := Lib.hid (bthen (box_below _ _) hb2)
          clear hb2
          go_wp2_with fail
          go_ret
          exact ⟨by rw [HV.out]; rfl, HB.out⟩
        · rw [if_neg h5] at hEV
          have h5' : (f.op == 5) = false := by simp [h5]
          by_cases h6 : f.op = 6
          · rw [if_pos h6] at hEV
            have HV := Lib.hid (show evF (valF fs cs) f = (f.kids.any (evF (valF fs cs))) by
              rw [hEV]
              simp only [List.any_map]
              rfl)
            have HK := Lib.hid hk
            have HNA := Lib.hid hask
            obtain ⟨g0, _⟩ := one_ hh0
            unfold fmV
            rw [h6]
            clear hEV hkids hlook he h hask hk ih hfo
            go_enter Tryz.func58, Tryz.ntmps58
            go_wp2_with fail
            refine (contFm58 bc bd bh (fun b => S b ∧ b < w.heap.size) d (evF (valF fs cs)) f.kids A c _ (HK.out.keep' (by simp) (Agree.of_below (box_below _ _))) (by omega) (fun S' k A' c' w' hk' hb' hf' => HNA.out S' k A' c' w' hk' (bthen (box_below _ _) hb') hf')).mono ?_
            rintro e w2 ⟨rfl, hb2⟩
            have HB := Lib.hid (bthen (box_below _ _) hb2)
            clear hb2
            go_wp2_with fail
            go_ret
            exact ⟨by rw [HV.out]; rfl, HB.out⟩
          · rw [if_neg h6] at hEV
            have h6' : (f.op == 6) = false := by simp [h6]
            have HV := Lib.hid hEV
            clear hEV hkids hlook he h hask hk ih hfo
            go_enter Tryz.func58, Tryz.ntmps58
            go_wp2_with fail
            go_ret
            exact ⟨by rw [HV.out]; rfl, box_below _ _⟩
end Go.Proofs.YtfajbcjcigajfaaGreatDoor
namespace Go.Proofs.YtfajbcjcigajfaaGreatDoor
open Go.RowKit

def holdsF (fs : List Fc) (c : List Int) (f : Fm) : Bool := fitsF fs c && (checkF fs f == 0) && evF (valF fs c) f
theorem check_ok {fs : List Fc} {f : Fm} (h : checkF fs f = 0) : OkF fs f ∧ nodesF f ≤ 200 ∧ depthF f ≤ 20 := by
  unfold checkF at h
  split at h
  · simp at h
  · rename_i hl
    simp only [largeB, Bool.or_eq_true, decide_eq_true_eq] at hl
    exact ⟨first_all _ _ f (Nat.le_refl _) h, by omega, by omega⟩
set_option maxRecDepth 100000 in
set_option maxHeartbeats 2000000 in
theorem formulaHolds_any (S SD SC : Nat → Prop) (d : Nat) (f : Fm) (A : Option Addr) (c : Nat) (fs : List Fc) (v : Value) (cs : List Int) (vc : Value) (w : World) (h : FmR S w d f (fv f A c)) (hn : nodesF f ≤ 100000) (hF : FcsAt SD w v fs) (hC : IntsAt SC w vc cs) :
    Calls Tryz.prog 18 #[fmV f A c, .agg #[v], vc] w (BoolE (holdsF fs cs f) w) := by
  obtain ⟨AD, cD, rfl, _⟩ := id hF
  obtain ⟨AC, cc, rfl, _⟩ := id hC
  have H := Lib.hid h
  have HF := Lib.hid hF
  have HC := Lib.hid hC
  clear h hF hC
  go_enter Tryz.func18, Tryz.ntmps18
  go_wp2_with fail
  have hb0 : Below w.heap.size w (((w.alloc (.cells #[.int .i64 f.op, .string f.name, .int .i64 f.cmp, .int .i64 f.n, .slice A f.kids.length c] 24)).alloc (.cells #[.slice AD fs.length cD] 27)).alloc (.cells #[.slice AC cs.length cc] 29)) := (((Below.refl _ _).alloc (Nat.le_refl _) _).alloc (by simp) _).alloc (by simp; omega) _
  have b1 := old_ (old_ (new_ w (.cells #[.int .i64 f.op, .string f.name, .int .i64 f.cmp, .int .i64 f.n, .slice A f.kids.length c] 24)) (o := .cells #[.slice AD fs.length cD] 27)) (o := .cells #[.slice AC cs.length cc] 29)
  have b2 := old_ (new_ (w.alloc (.cells #[.int .i64 f.op, .string f.name, .int .i64 f.cmp, .int .i64 f.n, .slice A f.kids.length c] 24)) (.cells #[.slice AD fs.length cD] 27)) (o := .cells #[.slice AC cs.length cc] 29)
  have b3 := new_ ((w.alloc (.cells #[.int .i64 f.op, .string f.name, .int .i64 f.cmp, .int .i64 f.n, .slice A f.kids.length c] 24)).alloc (.cells #[.slice AD fs.length cD] 27)) (.cells #[.slice AC cs.length cc] 29)
  have hz0 : (w.alloc (.cells #[.int .i64 f.op, .string f.name, .int .i64 f.cmp, .int .i64 f.n, .slice A f.kids.length c] 24)).heap.size = w.heap.size + 1 := by simp
  have hz1 : ((w.alloc (.cells #[.int .i64 f.op, .string f.name, .int .i64 f.cmp, .int .i64 f.n, .slice A f.kids.length c] 24)).alloc (.cells #[.slice AD fs.length cD] 27)).heap.size = w.heap.size + 1 + 1 := by simp
  rw [hz0] at b2
  rw [hz1] at b3
  clear hz0 hz1
  generalize (((w.alloc (.cells #[.int .i64 f.op, .string f.name, .int .i64 f.cmp, .int .i64 f.n, .slice A f.kids.length c] 24)).alloc (.cells #[.slice AD fs.length cD] 27)).alloc (.cells #[.slice AC cs.length cc] 29)) = w0 at *
  have hx0 := HF.out.keep hb0.size (Agree.of_below hb0) (fun _ hb hs => (⟨hs, hb⟩ : SD _ ∧ _ < w.heap.size))
  have hc0 := HC.out.keep hb0.size (Agree.of_below hb0) (fun _ hb hs => (⟨hs, hb⟩ : SC _ ∧ _ < w.heap.size))
  refine (fits_any _ _ fs cs _ _ w0 hx0 hc0).mono ?_
  rintro e w1 ⟨rfl, hb1⟩
  have HB1 := Lib.hid (bthen hb0 hb1)
  have B1 := Lib.hid (below_ hb1 b1)
  have B2 := Lib.hid (below_ hb1 b2)
  have B3 := Lib.hid (below_ hb1 b3)
  clear hb0 hb1 b1 b2 b3 hx0 hc0
  obtain ⟨s0, s1, s2, s3, s4, _⟩ := five_ B1.out
  obtain ⟨d0, _⟩ := one_ B2.out
  obtain ⟨c0, _⟩ := one_ B3.out
  have l1 := blt_ B1.out
  have l2 := blt_ B2.out
  have l3 := blt_ B3.out
  cases hfit : fitsF fs cs
  · have HV := Lib.hid (show holdsF fs cs f = false by simp [holdsF, hfit])
    clear hfit
    go_wp2_with fail
    go_ret
    exact ⟨by rw [HV.out]; rfl, HB1.out⟩
  · have HL := Lib.hid (show cs.length = fs.length by
      simp only [fitsF, Bool.and_eq_true, decide_eq_true_eq] at hfit
      exact hfit.1.2)
    have HV := Lib.hid (show holdsF fs cs f = ((checkF fs f == 0) && evF (valF fs cs) f) by simp [holdsF, hfit])
    clear hfit
    go_wp2_with fail
    have hx1 := HF.out.keep HB1.out.size (Agree.of_below HB1.out) (fun _ hb hs => (⟨hs, hb⟩ : SD _ ∧ _ < w.heap.size))
    refine (check_any (fun b => S b ∧ b < w.heap.size) _ d f A c fs _ w1 (H.out.keep HB1.out.size (Agree.of_below HB1.out) (fun _ hb hs => ⟨hs, hb⟩)) hn hx1).mono ?_
    rintro e w2 ⟨rfl, hb2⟩
    have HB2 := Lib.hid (bthen HB1.out hb2)
    have C1 := Lib.hid (below_ hb2 B1.out)
    have C2 := Lib.hid (below_ hb2 B2.out)
    have C3 := Lib.hid (below_ hb2 B3.out)
    clear hb2 hx1 B1 B2 B3 s0 s1 s2 s3 s4 d0 c0 l1 l2 l3 HB1
    obtain ⟨s0, s1, s2, s3, s4, _⟩ := five_ C1.out
    have l1 := blt_ C1.out
    by_cases hch : checkF fs f = 0
    · have hch' : (checkF fs f != 0) = false := by simp [hch]
      obtain ⟨hok, _, _⟩ := check_ok hch
      have HO := Lib.hid hok
      have HV2 := Lib.hid (show holdsF fs cs f = evF (valF fs cs) f by rw [HV.out, hch]; rfl)
      clear hok hch HV
      go_wp2_with fail
      have hb3 := box_below w2 (.cells #[.func (Fn.func 58) #[] #[.pointer (some ⟨w.heap.size + 1 + 1, 0, none⟩), .pointer (some ⟨w.heap.size + 1, 0, none⟩), .pointer (some ⟨w2.heap.size, 0, none⟩)]] 87)
      have hb4 := bthen HB2.out hb3
      refine (eval_any (w.heap.size + 1 + 1) (w.heap.size + 1) w2.heap.size AC cc cs AD cD fs HL.out d (fun b => S b ∧ b < w.heap.size) (fun b => (SD b ∨ SC b) ∧ b < w.heap.size) f A c _ ⟨?_, ?_, ⟨?_, ?_⟩, ?_⟩ (H.out.keep hb4.size (Agree.of_below hb4) (fun _ hb hs => ⟨hs, hb⟩)) hn HO.out).mono ?_
      · exact old_ C3.out
      · exact HC.out.keep hb4.size (Agree.of_below hb4) (fun _ hb hs => ⟨.inr hs, hb⟩)
      · exact old_ C2.out
      · exact HF.out.keep hb4.size (Agree.of_below hb4) (fun _ hb hs => ⟨.inl hs, hb⟩)
      · exact new_ _ _
      rintro e w5 ⟨rfl, hb5⟩
      have HB5 := Lib.hid (bthen hb4 hb5)
      clear hb3 hb4 hb5
      go_wp2_with fail
      go_ret
      exact ⟨by rw [HV2.out]; rfl, HB5.out⟩
    · have hch' : (checkF fs f != 0) = true := by simp [hch]
      have HV2 := Lib.hid (show holdsF fs cs f = false by rw [HV.out, beq_eq_false_iff_ne.2 hch]; rfl)
      clear hch HV
      go_wp2_with fail
      go_ret
      exact ⟨by rw [HV2.out]; rfl, HB2.out⟩
end Go.Proofs.YtfajbcjcigajfaaGreatDoor
