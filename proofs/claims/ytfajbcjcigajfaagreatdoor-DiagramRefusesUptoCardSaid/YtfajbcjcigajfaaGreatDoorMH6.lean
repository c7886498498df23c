/- Part of the proof of a law of customhouselaw26: the texts H6. -/
import Derived.Deep.DeepCutAuto
import Derived.Test.YtfajbcjcigajfaaGreatDoorMI1
import Derived.Test.YtfajbcjcigajfaaGreatDoorMH4H5
/- The walk of customhouselaw26.head. -/
namespace Go.Proofs.YtfajbcjcigajfaaGreatDoor
open Go.RowKit

abbrev Vd (AD : Option Addr) (cD : Nat) : Value := .slice AD domH.length cD
abbrev Vt (nm : ByteArray) (c n : Int) : Array Value := #[.int .i64 3, .string nm, .int .i64 c, .int .i64 n, .slice none 0 0]
theorem fcs_keep {w w' : World} {v : Value} {l : List Fc} (h : FcsAt AnyB w v l) (hb : Below w.heap.size w w') : FcsAt AnyB w' v l := h.keep hb.size (Agree.of_below hb) (fun _ _ _ => trivial)
theorem nds_keep {w w' : World} {v : Value} {l : List Nd} (h : NdsAt AnyB w v l) (hb : Below w.heap.size w w') : NdsAt AnyB w' v l := h.keep hb.size (Agree.of_below hb) (fun _ _ _ => trivial)
theorem fm_keep {w w' : World} {d : Nat} {f : Fm} {cs : List Value} (h : FmR AnyB w d f cs) (hb : Below w.heap.size w w') : FmR AnyB w' d f cs := h.keep hb.size (Agree.of_below hb) (fun _ _ _ => trivial)
theorem five_set {W w : World} {b : Nat} {x0 x1 x2 x3 x4 : Value} {t : TypeId} (y0 y1 y2 y3 y4 : Value) (hB : Below W.heap.size W w) (hb : W.heap.size ≤ b) (h : w.heap[b]? = some (.cells #[x0, x1, x2, x3, x4] t (0, 0))) :
    (((((w.setCell ⟨b, 0, none⟩ y0).setCell ⟨b, 1, none⟩ y1).setCell ⟨b, 2, none⟩ y2).setCell ⟨b, 3, none⟩ y3).setCell ⟨b, 4, none⟩ y4).heap[b]? = some (.cells #[y0, y1, y2, y3, y4] t (0, 0)) ∧
      Below W.heap.size W (((((w.setCell ⟨b, 0, none⟩ y0).setCell ⟨b, 1, none⟩ y1).setCell ⟨b, 2, none⟩ y2).setCell ⟨b, 3, none⟩ y3).setCell ⟨b, 4, none⟩ y4) ∧
      (((((w.setCell ⟨b, 0, none⟩ y0).setCell ⟨b, 1, none⟩ y1).setCell ⟨b, 2, none⟩ y2).setCell ⟨b, 3, none⟩ y3).setCell ⟨b, 4, none⟩ y4).heap.size = w.heap.size := by
  have h0 := heap_setCell_same w b 0 _ t y0 h
  have h1 := heap_setCell_same _ b 1 _ t y1 h0
  have h2 := heap_setCell_same _ b 2 _ t y2 h1
  have h3 := heap_setCell_same _ b 3 _ t y3 h2
  have h4 := heap_setCell_same _ b 4 _ t y4 h3
  refine ⟨h4.trans rfl, ((((hB.setCell hb _).setCell hb _).setCell hb _).setCell hb _).setCell hb _, by simp [World.setCell]⟩
/-- A formula of two tests. -/
theorem two_at {w : World} {bs : Nat} {nm nm' : ByteArray} {c n c' n' op : Int} (h : w.heap[bs]? = some (.cells (Vt nm c n ++ Vt nm' c' n') 24 (0, 0))) (ho : I64 op) (h1 : nm.size ≤ 140737488351232) (h2 : I64 c) (h3 : I64 n) (h1' : nm'.size ≤ 140737488351232) (h2' : I64 c') (h3' : I64 n') :
    FmR AnyB w 2 ⟨op, ⟨#[]⟩, 0, 0, [tst nm c n, tst nm' c' n']⟩ (fv ⟨op, ⟨#[]⟩, 0, 0, [tst nm c n, tst nm' c' n']⟩ (some ⟨bs, 0, none⟩) 2) := by
  refine ⟨_, rfl, ho, by unfold I64; dsimp only; omega, by unfold I64; dsimp only; omega, (by show (⟨#[]⟩ : ByteArray).size ≤ 140737488351232; decide), SliceAt.of_block (xs := [tst nm c n, tst nm' c' n']) h trivial (by unfold N44; simp) (by simp) (fun j x hx => ?_)⟩
  match j, hx with
  | 0, hx =>
    have hx : tst nm c n = x := by simpa using hx
    subst hx
    refine ⟨_, rfl, tst_at nm c n h1 h2 h3, fun i u hu => ?_⟩
    match i, hu with
    | 0, hu => simpa [fv, tst, Vt] using hu
    | 1, hu => simpa [fv, tst, Vt] using hu
    | 2, hu => simpa [fv, tst, Vt] using hu
    | 3, hu => simpa [fv, tst, Vt] using hu
    | 4, hu => simpa [fv, tst, Vt] using hu
    | i + 5, hu => simp [fv, tst] at hu
  | 1, hx =>
    have hx : tst nm' c' n' = x := by simpa using hx
    subst hx
    refine ⟨_, rfl, tst_at nm' c' n' h1' h2' h3', fun i u hu => ?_⟩
    match i, hu with
    | 0, hu => simpa [fv, tst, Vt] using hu
    | 1, hu => simpa [fv, tst, Vt] using hu
    | 2, hu => simpa [fv, tst, Vt] using hu
    | 3, hu => simpa [fv, tst, Vt] using hu
    | 4, hu => simpa [fv, tst, Vt] using hu
    | i + 5, hu => simp [fv, tst] at hu
  | j + 2, hx => simp at hx
theorem ints_block {w : World} {b : Nat} {xs : List Int} {c : Nat} {cur : Array Value} (h : w.heap[b]? = some (.cells cur 3 (0, 0))) (hc : cur = (xs.map (Value.int .i64)).toArray) (hx : ∀ x ∈ xs, I64 x) (hl : xs.length ≤ 1000) (hcc : xs.length ≤ c) : IntsAt AnyB w (.slice (some ⟨b, 0, none⟩) xs.length c) xs := by
  subst hc
  refine SliceAt.of_block h trivial (by unfold N44; omega) hcc (fun j x hj => ⟨[.int .i64 x], rfl, ⟨rfl, hx x (List.mem_of_getElem? hj)⟩, fun i u hu => ?_⟩)
  match i, hu with
  | 0, hu => simp at hu; subst hu; simp [hj]
  | i + 1, hu => simp at hu
theorem leaf_at {w : World} {b : Nat} {x : Bool} (h : w.heap[b]? = some (.cells #[.bool x, .int .i64 0, .slice none 0 0, .slice none 0 0] 55 (0, 0))) : NdsAt AnyB w (.slice (some ⟨b, 0, none⟩) 1 1) [⟨x, 0, [], []⟩] :=
  SliceAt.of_one (cs := [.bool x, .int .i64 0, .slice none 0 0, .slice none 0 0]) h trivial rfl ⟨_, _, rfl, by unfold I64; dsimp only; omega, SliceAt.nil _ _ _ _, SliceAt.nil _ _ _ _⟩
theorem want_at {w : World} {b0 b1 b2 b3 b4 : Nat} (h0 : w.heap[b0]? = some (.cells #[.int .i64 18] 3 (0, 0))) (h1 : w.heap[b1]? = some (.cells #[.int .i64 1, .int .i64 2] 3 (0, 0))) (h2 : w.heap[b2]? = some (.cells #[.int .i64 1] 3 (0, 0))) (h3 : w.heap[b3]? = some (.cells #[.int .i64 1, .int .i64 3] 3 (0, 0)))
    (h4 : w.heap[b4]? = some (.cells #[.bool false, .int .i64 0, .slice (some ⟨b0, 0, none⟩) 1 1, .slice (some ⟨b1, 0, none⟩) 2 2, .bool false, .int .i64 0, .slice none 0 0, .slice none 0 0, .bool false, .int .i64 1, .slice (some ⟨b2, 0, none⟩) 1 1, .slice (some ⟨b3, 0, none⟩) 2 2, .bool true, .int .i64 0, .slice none 0 0, .slice none 0 0] 55 (0, 0))) :
    NdsAt AnyB w (.slice (some ⟨b4, 0, none⟩) 4 4) ndsA := by
  have i0 : I64 0 := by unfold I64; omega
  have i1 : I64 1 := by unfold I64; omega
  refine SliceAt.of_block (xs := ndsA) h4 trivial (by decide) (by decide) (fun j x hx => ?_)
  have close : ∀ (cs : List Value) (k : Nat), cs.length = 4 → ((#[.bool false, .int .i64 0, .slice (some ⟨b0, 0, none⟩) 1 1, .slice (some ⟨b1, 0, none⟩) 2 2, .bool false, .int .i64 0, .slice none 0 0, .slice none 0 0, .bool false, .int .i64 1, .slice (some ⟨b2, 0, none⟩) 1 1, .slice (some ⟨b3, 0, none⟩) 2 2, .bool true, .int .i64 0, .slice none 0 0, .slice none 0 0] : Array Value).toList.drop (k * 4)).take 4 = cs → ∀ i u, cs[i]? = some u → (#[.bool false, .int .i64 0, .slice (some ⟨b0, 0, none⟩) 1 1, .slice (some ⟨b1, 0, none⟩) 2 2, .bool false, .int .i64 0, .slice none 0 0, .slice none 0 0, .bool false, .int .i64 1, .slice (some ⟨b2, 0, none⟩) 1 1, .slice (some ⟨b3, 0, none⟩) 2 2, .bool true, .int .i64 0, .slice none 0 0, .slice none 0 0] : Array Value)[k * 4 + i]? = some u := by
    intro cs k _ hc i u hu
    rw [← hc] at hu
    have hi : i < 4 := by
      have := (List.getElem?_eq_some_iff.1 hu).1
      simp only [List.length_take] at this
      omega
    rw [List.getElem?_take_of_lt hi, List.getElem?_drop] at hu
    rw [← Array.getElem?_toList]
    exact hu
  match j, hx with
  | 0, hx =>
    have hx : (⟨false, 0, [18], [1, 2]⟩ : Nd) = x := by simpa [ndsA] using hx
    subst hx
    exact ⟨_, rfl, ⟨_, _, rfl, i0, ints_block (xs := [18]) (c := 1) h0 rfl (by intro y hy; simp at hy; subst hy; unfold I64; omega) (by decide) (by decide), ints_block (xs := [1, 2]) (c := 2) h1 rfl (by intro y hy; simp at hy; rcases hy with rfl | rfl <;> (unfold I64; omega)) (by decide) (by decide)⟩, close _ 0 rfl rfl⟩
  | 1, hx =>
    have hx : (⟨false, 0, [], []⟩ : Nd) = x := by simpa [ndsA] using hx
    subst hx
    exact ⟨_, rfl, ⟨_, _, rfl, i0, SliceAt.nil _ _ _ _, SliceAt.nil _ _ _ _⟩, close _ 1 rfl rfl⟩
  | 2, hx =>
    have hx : (⟨false, 1, [1], [1, 3]⟩ : Nd) = x := by simpa [ndsA] using hx
    subst hx
    exact ⟨_, rfl, ⟨_, _, rfl, i1, ints_block (xs := [1]) (c := 1) h2 rfl (by intro y hy; simp at hy; subst hy; unfold I64; omega) (by decide) (by decide), ints_block (xs := [1, 3]) (c := 2) h3 rfl (by intro y hy; simp at hy; rcases hy with rfl | rfl <;> (unfold I64; omega)) (by decide) (by decide)⟩, close _ 2 rfl rfl⟩
  | 3, hx =>
    have hx : (⟨true, 0, [], []⟩ : Nd) = x := by simpa [ndsA] using hx
    subst hx
    exact ⟨_, rfl, ⟨_, _, rfl, i0, SliceAt.nil _ _ _ _, SliceAt.nil _ _ _ _⟩, close _ 3 rfl rfl⟩
  | j + 4, hx => simp [ndsA] at hx
theorem build_at {f : Fm} {g : List Nd} {en : Int} (hE : buildK domH f = (g, en)) (S SF : Nat → Prop) (d : Nat) (A : Option Addr) (c : Nat) (v : Value) (w : World) (hf : FmR S w d f (fv f A c)) (hn : nodesF f ≤ 100000) (hx : FcsAt SF w v domH) (ht : Tab w) :
    Calls Tryz.prog 12 #[fmV f A c, .agg #[v]] w fun e w' => ∃ A' n' c', e = .returned (.tuple #[.agg #[.slice A' n' c'], .int .i64 en]) ∧ NdsAt AnyB w' (.slice A' n' c') g ∧ Below w.heap.size w w' := by
  refine (build_any S SF d f A c domH v w hf hn hx ht).mono ?_
  rintro e w' ⟨v', rfl, h1, h2⟩
  rw [hE] at h1 ⊢
  obtain ⟨A', c', rfl, _⟩ := id h1
  exact ⟨A', _, c', rfl, h1, h2⟩
set_option maxRecDepth 100000 in
set_option maxHeartbeats 80000000 in
theorem head_any (w : World) (ht : Tab w) : Calls Tryz.prog 10 #[] w (BoolE true w) := by
  have HT := Lib.hid (Lib.tabBelow_of_tabIs ht)
  clear ht
  go_enter Tryz.func10, Tryz.ntmps10
  go_wp2_with fail
  refine (domain_any _).mono ?_
  rintro e w1 ⟨vd, rfl, hf1, hb1⟩
  have HF1 := Lib.hid hf1
  obtain ⟨AD, cD, rfl, _⟩ := id hf1
  have HB1 := Lib.hid hb1
  clear hf1 hb1
  go_wp2_with fail
  refine (test_any _ _ _ _).mono ?_
  rintro e w2 ⟨rfl, hb2⟩
  have HBa := Lib.hid (HB1.out.alloc HB1.out.size (.cells #[Vd AD cD] 27))
  have HBb := Lib.hid ((HBa.out.trans (hb2.mono HBa.out.size)).alloc (Nat.le_trans HBa.out.size hb2.size) (.cells (Vt nmMilitary 1 1) 24))
  have HDb := Lib.hid (old_ (o := .cells (Vt nmMilitary 1 1) 24) (below_ hb2 (new_ w1 (.cells #[Vd AD cD] 27))))
  have HDf := Lib.hid (fcs_keep (fcs_keep (fcs_keep HF1.out (box_below _ (.cells #[Vd AD cD] 27))) hb2) (box_below _ (.cells (Vt nmMilitary 1 1) 24)))
  have HMb := Lib.hid (new_ w2 (.cells (Vt nmMilitary 1 1) 24))
  clear hb2
  go_upto_region 3 with fail
  obtain ⟨W, hW⟩ : ∃ W, W = w2.alloc (.cells (Vt nmMilitary 1 1) 24) := ⟨_, rfl⟩
  rw [← hW] at HDb HDf HMb HBb
  change Code.wp _ _ _ _ (w2.alloc (.cells (Vt nmMilitary 1 1) 24))
  rw [← hW]
  clear hW HB1 HF1 HBa
  generalize w1.heap.size = bd at *
  generalize w2.heap.size = bm at *
  have HBW := HBb
  clear HBb
  go_cut [3] (fun v3 wx => ∃ (b bs : Nat), v3 = .pointer (some ⟨b, 0, none⟩) ∧ Hid (wx.heap[b]? = some (.cells #[.int .i64 5, .string ⟨#[]⟩, .int .i64 0, .int .i64 0, .slice (some ⟨bs, 0, none⟩) 2 2] 24 (0, 0))) ∧ Hid (wx.heap[bs]? = some (.cells (Vt nmWeight 6 18 ++ Vt nmMilitary 1 1) 24 (0, 0))) ∧ Hid (Below W.heap.size W wx))
  case first =>
    have HB0r := Lib.hid (show Below W.heap.size W W.drew from (Below.refl _ _).drew)
    refine wp_region_L (S := fun W9 => Below W.heap.size W W9) (T := []) (by kernel_rfl) HB0r.out (fun _ => ?_)
    refine wpAnyL_load (i := 1) (oi := _) (v := ?_) (some 23) rfl rfl (by kernel_rfl) (by kernel_rfl) (by kernel_rfl) (by kernel_rfl) (fun _ _ _ h => h) (fun _ => HB0r.out) (by kernel_rfl) (by kernel_rfl) (Or.inl ⟨by rfl, ?_⟩) ?_
    rotate_left
    · intro W9 hSw; obtain ⟨d0, _⟩ := one_ (below_ hSw HDb.out); have ld := blt_ (below_ hSw HDb.out); obtain ⟨m0, m1, m2, m3, m4, _⟩ := five_ (below_ hSw HMb.out); have lm := blt_ (below_ hSw HMb.out); go_simp; try with_reducible rfl
    try simp only [Act.put, List.setIfInBounds_toArray, List.set_cons_zero, List.set_cons_succ]
    refine wpAnyL_ready (rs := [0, 4]) (by kernel_rfl) (by simp) ?_
    refine (ReadyL.cons rfl (fun K hK => ?_) (ReadyL.cons rfl (fun K hK => ?_) ReadyL.nil))
    ·
      go_simp
      refine (test_any _ _ _ _).mono ?_
      rintro e w1' ⟨rfl, hb1⟩
      have HB1 := Lib.hid (HB0r.out.trans (hb1.mono HB0r.out.size))
      clear hb1
      refine hK.out _ _ (fun _ => HB1.out) (fun _ => ?_)
      clear hK K
      try simp only [Act.put, List.setIfInBounds_toArray, List.set_cons_zero, List.set_cons_succ]
      refine wpAnyL_ready (rs := [2, 4]) (by kernel_rfl) (by simp) ?_
      refine (ReadyL.cons rfl (fun K hK => ?_) (ReadyL.cons rfl (fun K hK => ?_) ReadyL.nil))
      ·
        go_simp
        have HB2 := Lib.hid (HB1.out.alloc HB1.out.size (.cells (Vt nmWeight 6 18 ++ Vt nmMilitary 1 1) 24))
        have HS2 := Lib.hid (alk w1' (.cells (Vt nmWeight 6 18 ++ Vt nmMilitary 1 1) 24) (k := w1'.heap.size) (by simp))
        refine hK.out _ _ (fun _ => HB2.out) (fun _ => ?_)
        clear hK K
        try simp only [Act.put, List.setIfInBounds_toArray, List.set_cons_zero, List.set_cons_succ]
        refine wpAnyL_pure (i := 3) (oi := _) (v := ?_) (some 25) rfl rfl (by kernel_rfl) (by kernel_rfl) (by kernel_rfl) (by kernel_rfl) (fun _ _ _ h => h) (fun _ => HB2.out) (Or.inl ⟨by rfl, ?_⟩) ?_
        rotate_left
        · intro W9 hSw; go_simp; try with_reducible rfl
        try simp only [Act.put, List.setIfInBounds_toArray, List.set_cons_zero, List.set_cons_succ]
        refine wpAnyL_ready (rs := [4]) (by kernel_rfl) (by simp) ?_
        refine (ReadyL.cons rfl (fun K hK => ?_) ReadyL.nil)
        go_simp
        have HB3 := Lib.hid (HB2.out.alloc HB2.out.size (.cells #[.int .i64 0, .string ⟨#[]⟩, .int .i64 0, .int .i64 0, .slice none 0 0] 24))
        have HX3 := Lib.hid (alk (w1'.alloc (.cells (Vt nmWeight 6 18 ++ Vt nmMilitary 1 1) 24)) (.cells #[.int .i64 0, .string ⟨#[]⟩, .int .i64 0, .int .i64 0, .slice none 0 0] 24) (k := w1'.heap.size + 1) (by simp))
        have HZ3 := Lib.hid (show W.heap.size ≤ w1'.heap.size + 1 from by have := HB2.out.size; simpa using this)
        refine hK.out _ _ (fun _ => HB3.out) (fun _ => ?_)
        clear hK K
        try simp only [Act.put, List.setIfInBounds_toArray, List.set_cons_zero, List.set_cons_succ]
        refine wpAnyL_ready (rs := [5]) (by kernel_rfl) (by simp) ?_
        refine (ReadyL.cons rfl (fun K hK => ?_) ReadyL.nil)
        go_simp
        have HC4 := Lib.hid (show Below W.heap.size W ((w1'.alloc (.cells (Vt nmWeight 6 18 ++ Vt nmMilitary 1 1) 24)).alloc (.cells #[.int .i64 5, .string ⟨#[]⟩, .int .i64 0, .int .i64 0, .slice (some ⟨w1'.heap.size, 0, none⟩) 2 2] 24)) from HB2.out.alloc HB2.out.size _)
        have HY4 := Lib.hid (alk (w1'.alloc (.cells (Vt nmWeight 6 18 ++ Vt nmMilitary 1 1) 24)) (.cells #[.int .i64 5, .string ⟨#[]⟩, .int .i64 0, .int .i64 0, .slice (some ⟨w1'.heap.size, 0, none⟩) 2 2] 24) (k := w1'.heap.size + 1) (by simp))
        have HV4 := Lib.hid (old_ (o := .cells #[.int .i64 5, .string ⟨#[]⟩, .int .i64 0, .int .i64 0, .slice (some ⟨w1'.heap.size, 0, none⟩) 2 2] 24) HS2.out)
        refine hK.out _ _ (fun _ => HC4.out) (fun _ => ?_)
        clear hK K
        try simp only [Act.put, List.setIfInBounds_toArray, List.set_cons_zero, List.set_cons_succ]
        refine wpAnyL_done (by kernel_rfl) ?_ _
        go_wp2_with fail
        go_meet
        exact ⟨_, _, rfl, HY4, HV4, HC4⟩
      ·
        go_simp
        have HB5 := Lib.hid (HB1.out.alloc HB1.out.size (.cells #[.int .i64 0, .string ⟨#[]⟩, .int .i64 0, .int .i64 0, .slice none 0 0] 24))
        have HX5 := Lib.hid (alk w1' (.cells #[.int .i64 0, .string ⟨#[]⟩, .int .i64 0, .int .i64 0, .slice none 0 0] 24) (k := w1'.heap.size) (by simp))
        have HZ5 := Lib.hid (show W.heap.size ≤ w1'.heap.size from by have := HB1.out.size; simpa using this)
        refine hK.out _ _ (fun _ => HB5.out) (fun _ => ?_)
        clear hK K
        try simp only [Act.put, List.setIfInBounds_toArray, List.set_cons_zero, List.set_cons_succ]
        refine wpAnyL_ready (rs := [2]) (by kernel_rfl) (by simp) ?_
        refine (ReadyL.cons rfl (fun K hK => ?_) ReadyL.nil)
        go_simp
        have HB6 := Lib.hid (HB5.out.alloc HB5.out.size (.cells (Vt nmWeight 6 18 ++ Vt nmMilitary 1 1) 24))
        have HS6 := Lib.hid (alk (w1'.alloc (.cells #[.int .i64 0, .string ⟨#[]⟩, .int .i64 0, .int .i64 0, .slice none 0 0] 24)) (.cells (Vt nmWeight 6 18 ++ Vt nmMilitary 1 1) 24) (k := w1'.heap.size + 1) (by simp))
        have HX6 := Lib.hid (old_ (o := .cells (Vt nmWeight 6 18 ++ Vt nmMilitary 1 1) 24) HX5.out)
        refine hK.out _ _ (fun _ => HB6.out) (fun _ => ?_)
        clear hK K
        try simp only [Act.put, List.setIfInBounds_toArray, List.set_cons_zero, List.set_cons_succ]
        refine wpAnyL_pure (i := 3) (oi := _) (v := ?_) (some 25) rfl rfl (by kernel_rfl) (by kernel_rfl) (by kernel_rfl) (by kernel_rfl) (fun _ _ _ h => h) (fun _ => HB6.out) (Or.inl ⟨by rfl, ?_⟩) ?_
        rotate_left
        · intro W9 hSw; go_simp; try with_reducible rfl
        try simp only [Act.put, List.setIfInBounds_toArray, List.set_cons_zero, List.set_cons_succ]
        refine wpAnyL_ready (rs := [5]) (by kernel_rfl) (by simp) ?_
        refine (ReadyL.cons rfl (fun K hK => ?_) ReadyL.nil)
        go_simp
        have HC7 := Lib.hid (show Below W.heap.size W ((w1'.alloc (.cells #[.int .i64 5, .string ⟨#[]⟩, .int .i64 0, .int .i64 0, .slice (some ⟨w1'.heap.size + 1, 0, none⟩) 2 2] 24)).alloc (.cells (Vt nmWeight 6 18 ++ Vt nmMilitary 1 1) 24)) from (HB1.out.alloc HB1.out.size _).alloc (HB1.out.alloc HB1.out.size (.cells #[.int .i64 5, .string ⟨#[]⟩, .int .i64 0, .int .i64 0, .slice (some ⟨w1'.heap.size + 1, 0, none⟩) 2 2] 24)).size _)
        have HY7 := Lib.hid (old_ (o := .cells (Vt nmWeight 6 18 ++ Vt nmMilitary 1 1) 24) (alk w1' (.cells #[.int .i64 5, .string ⟨#[]⟩, .int .i64 0, .int .i64 0, .slice (some ⟨w1'.heap.size + 1, 0, none⟩) 2 2] 24) (k := w1'.heap.size) (by simp)))
        have HV7 := Lib.hid (alk (w1'.alloc (.cells #[.int .i64 5, .string ⟨#[]⟩, .int .i64 0, .int .i64 0, .slice (some ⟨w1'.heap.size + 1, 0, none⟩) 2 2] 24)) (.cells (Vt nmWeight 6 18 ++ Vt nmMilitary 1 1) 24) (k := w1'.heap.size + 1) (by simp))
        refine hK.out _ _ (fun _ => HC7.out) (fun _ => ?_)
        clear hK K
        try simp only [Act.put, List.setIfInBounds_toArray, List.set_cons_zero, List.set_cons_succ]
        refine wpAnyL_done (by kernel_rfl) ?_ _
        go_wp2_with fail
        go_meet
        exact ⟨_, _, rfl, HY7, HV7, HC7⟩
    ·
      go_simp
      have HB8 := Lib.hid (HB0r.out.alloc HB0r.out.size (.cells #[.int .i64 0, .string ⟨#[]⟩, .int .i64 0, .int .i64 0, .slice none 0 0] 24))
      have HX8 := Lib.hid (alk W.drew (.cells #[.int .i64 0, .string ⟨#[]⟩, .int .i64 0, .int .i64 0, .slice none 0 0] 24) (k := W.heap.size) (by simp))
      have HZ8 := Lib.hid (show W.heap.size ≤ W.heap.size from Nat.le_refl _)
      refine hK.out _ _ (fun _ => HB8.out) (fun _ => ?_)
      clear hK K
      try simp only [Act.put, List.setIfInBounds_toArray, List.set_cons_zero, List.set_cons_succ]
      refine wpAnyL_ready (rs := [0]) (by kernel_rfl) (by simp) ?_
      refine (ReadyL.cons rfl (fun K hK => ?_) ReadyL.nil)
      go_simp
      refine (test_any _ _ _ _).mono ?_
      rintro e w9' ⟨rfl, hb9⟩
      have HB9 := Lib.hid (HB8.out.trans (hb9.mono HB8.out.size))
      have HX9 := Lib.hid (below_ hb9 HX8.out)
      clear hb9
      refine hK.out _ _ (fun _ => HB9.out) (fun _ => ?_)
      clear hK K
      try simp only [Act.put, List.setIfInBounds_toArray, List.set_cons_zero, List.set_cons_succ]
      refine wpAnyL_ready (rs := [2]) (by kernel_rfl) (by simp) ?_
      refine (ReadyL.cons rfl (fun K hK => ?_) ReadyL.nil)
      go_simp
      have HB10 := Lib.hid (HB9.out.alloc HB9.out.size (.cells (Vt nmWeight 6 18 ++ Vt nmMilitary 1 1) 24))
      have HS10 := Lib.hid (alk w9' (.cells (Vt nmWeight 6 18 ++ Vt nmMilitary 1 1) 24) (k := w9'.heap.size) (by simp))
      have HX10 := Lib.hid (old_ (o := .cells (Vt nmWeight 6 18 ++ Vt nmMilitary 1 1) 24) HX9.out)
      refine hK.out _ _ (fun _ => HB10.out) (fun _ => ?_)
      clear hK K
      try simp only [Act.put, List.setIfInBounds_toArray, List.set_cons_zero, List.set_cons_succ]
      refine wpAnyL_pure (i := 3) (oi := _) (v := ?_) (some 25) rfl rfl (by kernel_rfl) (by kernel_rfl) (by kernel_rfl) (by kernel_rfl) (fun _ _ _ h => h) (fun _ => HB10.out) (Or.inl ⟨by rfl, ?_⟩) ?_
      rotate_left
      · intro W9 hSw; go_simp; try with_reducible rfl
      try simp only [Act.put, List.setIfInBounds_toArray, List.set_cons_zero, List.set_cons_succ]
      refine wpAnyL_ready (rs := [5]) (by kernel_rfl) (by simp) ?_
      refine (ReadyL.cons rfl (fun K hK => ?_) ReadyL.nil)
      obtain ⟨q0, q1, q2, q3, q4, qf⟩ := five_ HX9.out
      have lq := blt_ HX9.out
      go_simp
      have HF11 := Lib.hid (five_set (.int .i64 5) (.string ⟨#[]⟩) (.int .i64 0) (.int .i64 0) (.slice (some ⟨w9'.heap.size, 0, none⟩) 2 2) HB9.out HZ8.out HX9.out)
      have HC11 := Lib.hid (HF11.out.2.1.alloc HF11.out.2.1.size (.cells (Vt nmWeight 6 18 ++ Vt nmMilitary 1 1) 24))
      have HY11 := Lib.hid (old_ (o := .cells (Vt nmWeight 6 18 ++ Vt nmMilitary 1 1) 24) HF11.out.1)
      have HV11 := Lib.hid (alk _ (.cells (Vt nmWeight 6 18 ++ Vt nmMilitary 1 1) 24) HF11.out.2.2)
      clear q0 q1 q2 q3 q4 qf lq
      refine hK.out _ _ (fun _ => HC11.out) (fun _ => ?_)
      clear hK K
      try simp only [Act.put, List.setIfInBounds_toArray, List.set_cons_zero, List.set_cons_succ]
      refine wpAnyL_done (by kernel_rfl) ?_ _
      go_wp2_with fail
      go_meet
      exact ⟨_, _, rfl, HY11, HV11, HC11⟩
  case rest =>
    obtain ⟨ba, bs, rfl, HAb0, HAs0, HBn⟩ := hcut
    rename World => W3
    have HDb' := Lib.hid (below_ HBn.out HDb.out)
    have HDf' := Lib.hid (fcs_keep HDf.out HBn.out)
    have HMb' := Lib.hid (below_ HBn.out HMb.out)
    clear HDb HDf HMb
    have HDb := HDb'
    clear HDb'
    have HDf := HDf'
    clear HDf'
    have HMb := HMb'
    clear HMb'
    have HBW' := Lib.hid (HBW.out.trans ((HBn.out).mono HBW.out.size))
    clear HBW
    have HBW := HBW'
    clear HBW'
    clear HBn
    have HAf := Lib.hid (show FmR AnyB W3 2 fmA (fv fmA (some ⟨bs, 0, none⟩) 2) from two_at HAs0.out (by unfold I64; omega) (by decide) (by unfold I64; omega) (by unfold I64; omega) (by decide) (by unfold I64; omega) (by unfold I64; omega))
    have HAb := HAb0
    clear HAb0 HAs0
    obtain ⟨d0, _⟩ := one_ HDb.out
    have ld := blt_ HDb.out
    obtain ⟨a0, a1, a2, a3, a4, _⟩ := five_ HAb.out
    have la := blt_ HAb.out
    go_wp2_with fail
    refine (build_at eA AnyB AnyB 2 (some ⟨bs, 0, none⟩) 2 (Vd AD cD) _ HAf.out (by rw [nodesF_eq]; simp [fmA, tst, nodesF_eq]) HDf.out (HT.out _ HBW.out)).mono ?_
    rintro e w5 ⟨AA, nA, cA, rfl, hn5, hb5⟩
    go_upto_region 5 with fail
    have HG0 := Lib.hid (shut_alloc (W := W3) hb5 hn5)
    have HDb' := Lib.hid (below_ HG0.out.2.2 HDb.out)
    have HDf' := Lib.hid (fcs_keep HDf.out HG0.out.2.2)
    have HMb' := Lib.hid (below_ HG0.out.2.2 HMb.out)
    have HAb' := Lib.hid (below_ HG0.out.2.2 HAb.out)
    have HAf' := Lib.hid (fm_keep HAf.out HG0.out.2.2)
    clear HDb HDf HMb HAb HAf
    have HDb := HDb'
    clear HDb'
    have HDf := HDf'
    clear HDf'
    have HMb := HMb'
    clear HMb'
    have HAb := HAb'
    clear HAb'
    have HAf := HAf'
    clear HAf'
    have HBW' := Lib.hid (HBW.out.trans ((HG0.out.2.2).mono HBW.out.size))
    clear HBW
    have HBW := HBW'
    clear HBW'
    have HGA := Lib.hid HG0.out.1
    have HGAf := Lib.hid HG0.out.2.1
    clear HG0 hb5 hn5
    obtain ⟨W, hNW⟩ : ∃ W9, W9 = (w5.alloc (.cells #[.slice AA nA cA] 34)) := ⟨_, rfl⟩
    rw [← hNW] at HDb HDf HMb HAb HAf HGA HGAf HBW
    change Code.wp _ _ _ _ (w5.alloc (.cells #[.slice AA nA cA] 34))
    rw [← hNW]
    clear hNW
    generalize w5.heap.size = b4 at *
    go_cut [6, 7] (fun v6 v7 wx => ∃ (b : Nat) (A' : Option Addr) (n' c' : Nat), v6 = .pointer (some ⟨b, 0, none⟩) ∧ v7 = .int .i64 0 ∧ Hid (wx.heap[b]? = some (.cells #[.slice A' n' c'] 34 (0, 0))) ∧ Hid (NdsAt AnyB wx (.slice A' n' c') [⟨true, 0, [], []⟩]) ∧ Hid (Below W.heap.size W wx))
    case first =>
      have HB0r := Lib.hid (show Below W.heap.size W W.drew from (Below.refl _ _).drew)
      refine wp_region_L (S := fun W9 => Below W.heap.size W W9) (T := []) (by kernel_rfl) HB0r.out (fun _ => ?_)
      refine wpAnyL_load (i := 1) (oi := _) (v := ?_) (some 34) rfl rfl (by kernel_rfl) (by kernel_rfl) (by kernel_rfl) (by kernel_rfl) (fun _ _ _ h => h) (fun _ => HB0r.out) (by kernel_rfl) (by kernel_rfl) (Or.inl ⟨by rfl, ?_⟩) ?_
      rotate_left
      · intro W9 hSw; obtain ⟨d0, _⟩ := one_ (below_ hSw HDb.out); have ld := blt_ (below_ hSw HDb.out); obtain ⟨m0, m1, m2, m3, m4, _⟩ := five_ (below_ hSw HMb.out); have lm := blt_ (below_ hSw HMb.out); go_simp; try with_reducible rfl
      try simp only [Act.put, List.setIfInBounds_toArray, List.set_cons_zero, List.set_cons_succ]
      refine wpAnyL_ready (rs := [0, 6]) (by kernel_rfl) (by simp) ?_
      refine (ReadyL.cons rfl (fun K hK => ?_) (ReadyL.cons rfl (fun K hK => ?_) ReadyL.nil))
      ·
        go_simp
        refine (test_any _ _ _ _).mono ?_
        rintro e w12' ⟨rfl, hb12⟩
        have HB12 := Lib.hid (HB0r.out.trans (hb12.mono HB0r.out.size))
        clear hb12
        refine hK.out _ _ (fun _ => HB12.out) (fun _ => ?_)
        clear hK K
        try simp only [Act.put, List.setIfInBounds_toArray, List.set_cons_zero, List.set_cons_succ]
        refine wpAnyL_ready (rs := [2, 6]) (by kernel_rfl) (by simp) ?_
        refine (ReadyL.cons rfl (fun K hK => ?_) (ReadyL.cons rfl (fun K hK => ?_) ReadyL.nil))
        ·
          go_simp
          refine (build_at eB AnyB AnyB 1 none 0 (Vd AD cD) _ (tst_at _ _ _ (by decide) (by unfold I64; omega) (by unfold I64; omega)) (by rw [nodesF_eq]; simp [fmB, tst]) (fcs_keep HDf.out HB12.out) (HT.out _ (HBW.out.trans (HB12.out.mono HBW.out.size)))).mono ?_
          rintro e w13' ⟨AX, nX, cX, rfl, hn13, hb13⟩
          have HN13 := Lib.hid hn13
          have HB13 := Lib.hid (HB12.out.trans (hb13.mono HB12.out.size))
          clear hb13 hn13
          refine hK.out _ _ (fun _ => HB13.out) (fun _ => ?_)
          clear hK K
          try simp only [Act.put, List.setIfInBounds_toArray, List.set_cons_zero, List.set_cons_succ]
          refine wpAnyL_pure (i := 3) (oi := _) (v := ?_) (some 32) rfl rfl (by kernel_rfl) (by kernel_rfl) (by kernel_rfl) (by kernel_rfl) (fun _ _ _ h => h) (fun _ => HB13.out) (Or.inl ⟨by rfl, ?_⟩) ?_
          rotate_left
          · intro W9 hSw; go_simp; try with_reducible rfl
          try simp only [Act.put, List.setIfInBounds_toArray, List.set_cons_zero, List.set_cons_succ]
          refine wpAnyL_pure (i := 4) (oi := _) (v := ?_) (some 36) rfl rfl (by kernel_rfl) (by kernel_rfl) (by kernel_rfl) (by kernel_rfl) (fun _ _ _ h => h) (fun _ => HB13.out) (Or.inl ⟨by rfl, ?_⟩) ?_
          rotate_left
          · intro W9 hSw; go_simp; try with_reducible rfl
          try simp only [Act.put, List.setIfInBounds_toArray, List.set_cons_zero, List.set_cons_succ]
          refine wpAnyL_pure (i := 5) (oi := _) (v := ?_) (some 37) rfl rfl (by kernel_rfl) (by kernel_rfl) (by kernel_rfl) (by kernel_rfl) (fun _ _ _ h => h) (fun _ => HB13.out) (Or.inl ⟨by rfl, ?_⟩) ?_
          rotate_left
          · intro W9 hSw; go_simp; try with_reducible rfl
          try simp only [Act.put, List.setIfInBounds_toArray, List.set_cons_zero, List.set_cons_succ]
          refine wpAnyL_ready (rs := [6]) (by kernel_rfl) (by simp) ?_
          refine (ReadyL.cons rfl (fun K hK => ?_) ReadyL.nil)
          go_simp
          have HB14 := Lib.hid (HB13.out.alloc HB13.out.size (.cells #[.slice none 0 0] 34))
          have HX14 := Lib.hid (alk w13' (.cells #[.slice none 0 0] 34) (k := w13'.heap.size) (by simp))
          have HZ14 := Lib.hid (show W.heap.size ≤ w13'.heap.size from by have := HB13.out.size; simpa using this)
          refine hK.out _ _ (fun _ => HB14.out) (fun _ => ?_)
          clear hK K
          try simp only [Act.put, List.setIfInBounds_toArray, List.set_cons_zero, List.set_cons_succ]
          refine wpAnyL_ready (rs := [7]) (by kernel_rfl) (by simp) ?_
          refine (ReadyL.cons rfl (fun K hK => ?_) ReadyL.nil)
          go_simp
          have HC15 := Lib.hid (shut_alloc (va := .slice AX nX cX) HB13.out HN13.out)
          refine hK.out _ _ (fun _ => HC15.out.2.2) (fun _ => ?_)
          clear hK K
          try simp only [Act.put, List.setIfInBounds_toArray, List.set_cons_zero, List.set_cons_succ]
          refine wpAnyL_pure (i := 8) (oi := _) (v := ?_) (some 7) rfl rfl (by kernel_rfl) (by kernel_rfl) (by kernel_rfl) (by kernel_rfl) (fun _ _ _ h => h) (fun _ => HC15.out.2.2) (Or.inl ⟨by rfl, ?_⟩) ?_
          rotate_left
          · intro W9 hSw; go_simp; try with_reducible rfl
          try simp only [Act.put, List.setIfInBounds_toArray, List.set_cons_zero, List.set_cons_succ]
          refine wpAnyL_done (by kernel_rfl) ?_ _
          go_wp2_with fail
          go_meet
          exact ⟨_, _, _, _, rfl, rfl, Lib.hid HC15.out.1, Lib.hid HC15.out.2.1, Lib.hid HC15.out.2.2⟩
        ·
          go_simp
          have HB16 := Lib.hid (HB12.out.alloc HB12.out.size (.cells #[.slice none 0 0] 34))
          have HX16 := Lib.hid (alk w12' (.cells #[.slice none 0 0] 34) (k := w12'.heap.size) (by simp))
          have HZ16 := Lib.hid (show W.heap.size ≤ w12'.heap.size from by have := HB12.out.size; simpa using this)
          refine hK.out _ _ (fun _ => HB16.out) (fun _ => ?_)
          clear hK K
          try simp only [Act.put, List.setIfInBounds_toArray, List.set_cons_zero, List.set_cons_succ]
          refine wpAnyL_ready (rs := [2]) (by kernel_rfl) (by simp) ?_
          refine (ReadyL.cons rfl (fun K hK => ?_) ReadyL.nil)
          go_simp
          refine (build_at eB AnyB AnyB 1 none 0 (Vd AD cD) _ (tst_at _ _ _ (by decide) (by unfold I64; omega) (by unfold I64; omega)) (by rw [nodesF_eq]; simp [fmB, tst]) (fcs_keep HDf.out HB16.out) (HT.out _ (HBW.out.trans (HB16.out.mono HBW.out.size)))).mono ?_
          rintro e w17' ⟨AX, nX, cX, rfl, hn17, hb17⟩
          have HN17 := Lib.hid hn17
          have HB17 := Lib.hid (HB16.out.trans (hb17.mono HB16.out.size))
          have HX17 := Lib.hid (below_ hb17 HX16.out)
          clear hb17 hn17
          refine hK.out _ _ (fun _ => HB17.out) (fun _ => ?_)
          clear hK K
          try simp only [Act.put, List.setIfInBounds_toArray, List.set_cons_zero, List.set_cons_succ]
          refine wpAnyL_pure (i := 3) (oi := _) (v := ?_) (some 32) rfl rfl (by kernel_rfl) (by kernel_rfl) (by kernel_rfl) (by kernel_rfl) (fun _ _ _ h => h) (fun _ => HB17.out) (Or.inl ⟨by rfl, ?_⟩) ?_
          rotate_left
          · intro W9 hSw; go_simp; try with_reducible rfl
          try simp only [Act.put, List.setIfInBounds_toArray, List.set_cons_zero, List.set_cons_succ]
          refine wpAnyL_pure (i := 4) (oi := _) (v := ?_) (some 36) rfl rfl (by kernel_rfl) (by kernel_rfl) (by kernel_rfl) (by kernel_rfl) (fun _ _ _ h => h) (fun _ => HB17.out) (Or.inl ⟨by rfl, ?_⟩) ?_
          rotate_left
          · intro W9 hSw; go_simp; try with_reducible rfl
          try simp only [Act.put, List.setIfInBounds_toArray, List.set_cons_zero, List.set_cons_succ]
          refine wpAnyL_pure (i := 5) (oi := _) (v := ?_) (some 37) rfl rfl (by kernel_rfl) (by kernel_rfl) (by kernel_rfl) (by kernel_rfl) (fun _ _ _ h => h) (fun _ => HB17.out) (Or.inl ⟨by rfl, ?_⟩) ?_
          rotate_left
          · intro W9 hSw; go_simp; try with_reducible rfl
          try simp only [Act.put, List.setIfInBounds_toArray, List.set_cons_zero, List.set_cons_succ]
          refine wpAnyL_ready (rs := [7]) (by kernel_rfl) (by simp) ?_
          refine (ReadyL.cons rfl (fun K hK => ?_) ReadyL.nil)
          obtain ⟨q0, qf⟩ := one_ HX17.out
          have lq := blt_ HX17.out
          go_simp
          clear q0 qf lq
          have HC18 := Lib.hid (shut_store (va := .slice AX nX cX) HB17.out HZ16.out HX17.out (nds_keep HN17.out (Below.refl _ _)))
          refine hK.out _ _ (fun _ => HC18.out.2.2) (fun _ => ?_)
          clear hK K
          try simp only [Act.put, List.setIfInBounds_toArray, List.set_cons_zero, List.set_cons_succ]
          refine wpAnyL_pure (i := 8) (oi := _) (v := ?_) (some 7) rfl rfl (by kernel_rfl) (by kernel_rfl) (by kernel_rfl) (by kernel_rfl) (fun _ _ _ h => h) (fun _ => HC18.out.2.2) (Or.inl ⟨by rfl, ?_⟩) ?_
          rotate_left
          · intro W9 hSw; go_simp; try with_reducible rfl
          try simp only [Act.put, List.setIfInBounds_toArray, List.set_cons_zero, List.set_cons_succ]
          refine wpAnyL_done (by kernel_rfl) ?_ _
          go_wp2_with fail
          go_meet
          exact ⟨_, _, _, _, rfl, rfl, Lib.hid HC18.out.1, Lib.hid HC18.out.2.1, Lib.hid HC18.out.2.2⟩
      ·
        go_simp
        have HB19 := Lib.hid (HB0r.out.alloc HB0r.out.size (.cells #[.slice none 0 0] 34))
        have HX19 := Lib.hid (alk W.drew (.cells #[.slice none 0 0] 34) (k := W.heap.size) (by simp))
        have HZ19 := Lib.hid (show W.heap.size ≤ W.heap.size from Nat.le_refl _)
        refine hK.out _ _ (fun _ => HB19.out) (fun _ => ?_)
        clear hK K
        try simp only [Act.put, List.setIfInBounds_toArray, List.set_cons_zero, List.set_cons_succ]
        refine wpAnyL_ready (rs := [0]) (by kernel_rfl) (by simp) ?_
        refine (ReadyL.cons rfl (fun K hK => ?_) ReadyL.nil)
        go_simp
        refine (test_any _ _ _ _).mono ?_
        rintro e w20' ⟨rfl, hb20⟩
        have HB20 := Lib.hid (HB19.out.trans (hb20.mono HB19.out.size))
        have HX20 := Lib.hid (below_ hb20 HX19.out)
        clear hb20
        refine hK.out _ _ (fun _ => HB20.out) (fun _ => ?_)
        clear hK K
        try simp only [Act.put, List.setIfInBounds_toArray, List.set_cons_zero, List.set_cons_succ]
        refine wpAnyL_ready (rs := [2]) (by kernel_rfl) (by simp) ?_
        refine (ReadyL.cons rfl (fun K hK => ?_) ReadyL.nil)
        go_simp
        refine (build_at eB AnyB AnyB 1 none 0 (Vd AD cD) _ (tst_at _ _ _ (by decide) (by unfold I64; omega) (by unfold I64; omega)) (by rw [nodesF_eq]; simp [fmB, tst]) (fcs_keep HDf.out HB20.out) (HT.out _ (HBW.out.trans (HB20.out.mono HBW.out.size)))).mono ?_
        rintro e w21' ⟨AX, nX, cX, rfl, hn21, hb21⟩
        have HN21 := Lib.hid hn21
        have HB21 := Lib.hid (HB20.out.trans (hb21.mono HB20.out.size))
        have HX21 := Lib.hid (below_ hb21 HX20.out)
        clear hb21 hn21
        refine hK.out _ _ (fun _ => HB21.out) (fun _ => ?_)
        clear hK K
        try simp only [Act.put, List.setIfInBounds_toArray, List.set_cons_zero, List.set_cons_succ]
        refine wpAnyL_pure (i := 3) (oi := _) (v := ?_) (some 32) rfl rfl (by kernel_rfl) (by kernel_rfl) (by kernel_rfl) (by kernel_rfl) (fun _ _ _ h => h) (fun _ => HB21.out) (Or.inl ⟨by rfl, ?_⟩) ?_
        rotate_left
        · intro W9 hSw; go_simp; try with_reducible rfl
        try simp only [Act.put, List.setIfInBounds_toArray, List.set_cons_zero, List.set_cons_succ]
        refine wpAnyL_pure (i := 4) (oi := _) (v := ?_) (some 36) rfl rfl (by kernel_rfl) (by kernel_rfl) (by kernel_rfl) (by kernel_rfl) (fun _ _ _ h => h) (fun _ => HB21.out) (Or.inl ⟨by rfl, ?_⟩) ?_
        rotate_left
        · intro W9 hSw; go_simp; try with_reducible rfl
        try simp only [Act.put, List.setIfInBounds_toArray, List.set_cons_zero, List.set_cons_succ]
        refine wpAnyL_pure (i := 5) (oi := _) (v := ?_) (some 37) rfl rfl (by kernel_rfl) (by kernel_rfl) (by kernel_rfl) (by kernel_rfl) (fun _ _ _ h => h) (fun _ => HB21.out) (Or.inl ⟨by rfl, ?_⟩) ?_
        rotate_left
        · intro W9 hSw; go_simp; try with_reducible rfl
        try simp only [Act.put, List.setIfInBounds_toArray, List.set_cons_zero, List.set_cons_succ]
        refine wpAnyL_ready (rs := [7]) (by kernel_rfl) (by simp) ?_
        refine (ReadyL.cons rfl (fun K hK => ?_) ReadyL.nil)
        obtain ⟨q0, qf⟩ := one_ HX21.out
        have lq := blt_ HX21.out
        go_simp
        clear q0 qf lq
        have HC22 := Lib.hid (shut_store (va := .slice AX nX cX) HB21.out HZ19.out HX21.out (nds_keep HN21.out (Below.refl _ _)))
        refine hK.out _ _ (fun _ => HC22.out.2.2) (fun _ => ?_)
        clear hK K
        try simp only [Act.put, List.setIfInBounds_toArray, List.set_cons_zero, List.set_cons_succ]
        refine wpAnyL_pure (i := 8) (oi := _) (v := ?_) (some 7) rfl rfl (by kernel_rfl) (by kernel_rfl) (by kernel_rfl) (by kernel_rfl) (fun _ _ _ h => h) (fun _ => HC22.out.2.2) (Or.inl ⟨by rfl, ?_⟩) ?_
        rotate_left
        · intro W9 hSw; go_simp; try with_reducible rfl
        try simp only [Act.put, List.setIfInBounds_toArray, List.set_cons_zero, List.set_cons_succ]
        refine wpAnyL_done (by kernel_rfl) ?_ _
        go_wp2_with fail
        go_meet
        exact ⟨_, _, _, _, rfl, rfl, Lib.hid HC22.out.1, Lib.hid HC22.out.2.1, Lib.hid HC22.out.2.2⟩
    case rest =>
      obtain ⟨bbB, ArB, nrB, crB, rfl, rfl, HGB, HGBf, HBn⟩ := hcut
      rename World => WB
      have HDb' := Lib.hid (below_ HBn.out HDb.out)
      have HDf' := Lib.hid (fcs_keep HDf.out HBn.out)
      have HMb' := Lib.hid (below_ HBn.out HMb.out)
      have HAb' := Lib.hid (below_ HBn.out HAb.out)
      have HAf' := Lib.hid (fm_keep HAf.out HBn.out)
      have HGA' := Lib.hid (below_ HBn.out HGA.out)
      have HGAf' := Lib.hid (nds_keep HGAf.out HBn.out)
      clear HDb HDf HMb HAb HAf HGA HGAf
      have HDb := HDb'
      clear HDb'
      have HDf := HDf'
      clear HDf'
      have HMb := HMb'
      clear HMb'
      have HAb := HAb'
      clear HAb'
      have HAf := HAf'
      clear HAf'
      have HGA := HGA'
      clear HGA'
      have HGAf := HGAf'
      clear HGAf'
      have HBW' := Lib.hid (HBW.out.trans ((HBn.out).mono HBW.out.size))
      clear HBW
      have HBW := HBW'
      clear HBW'
      clear HBn
      go_upto_region 6 with fail
      go_cut [8, 9] (fun v8 v9 wx => ∃ (b : Nat) (A' : Option Addr) (n' c' : Nat), v8 = .pointer (some ⟨b, 0, none⟩) ∧ v9 = .int .i64 0 ∧ Hid (wx.heap[b]? = some (.cells #[.slice A' n' c'] 34 (0, 0))) ∧ Hid (NdsAt AnyB wx (.slice A' n' c') [⟨true, 0, [], []⟩]) ∧ Hid (Below WB.heap.size WB wx))
      case first =>
        have HB0r := Lib.hid (show Below WB.heap.size WB WB.drew from (Below.refl _ _).drew)
        refine wp_region_L (S := fun W9 => Below WB.heap.size WB W9) (T := []) (by kernel_rfl) HB0r.out (fun _ => ?_)
        refine wpAnyL_load (i := 0) (oi := _) (v := ?_) (some 39) rfl rfl (by kernel_rfl) (by kernel_rfl) (by kernel_rfl) (by kernel_rfl) (fun _ _ _ h => h) (fun _ => HB0r.out) (by kernel_rfl) (by kernel_rfl) (Or.inl ⟨by rfl, ?_⟩) ?_
        rotate_left
        · intro W9 hSw; obtain ⟨d0, _⟩ := one_ (below_ hSw HDb.out); have ld := blt_ (below_ hSw HDb.out); obtain ⟨m0, m1, m2, m3, m4, _⟩ := five_ (below_ hSw HMb.out); have lm := blt_ (below_ hSw HMb.out); go_simp; try with_reducible rfl
        try simp only [Act.put, List.setIfInBounds_toArray, List.set_cons_zero, List.set_cons_succ]
        refine wpAnyL_load (i := 4) (oi := _) (v := ?_) (some 43) rfl rfl (by kernel_rfl) (by kernel_rfl) (by kernel_rfl) (by kernel_rfl) (fun _ _ _ h => h) (fun _ => HB0r.out) (by kernel_rfl) (by kernel_rfl) (Or.inl ⟨by rfl, ?_⟩) ?_
        rotate_left
        · intro W9 hSw; obtain ⟨d0, _⟩ := one_ (below_ hSw HDb.out); have ld := blt_ (below_ hSw HDb.out); obtain ⟨m0, m1, m2, m3, m4, _⟩ := five_ (below_ hSw HMb.out); have lm := blt_ (below_ hSw HMb.out); go_simp; try with_reducible rfl
        try simp only [Act.put, List.setIfInBounds_toArray, List.set_cons_zero, List.set_cons_succ]
        refine wpAnyL_ready (rs := [1, 9]) (by kernel_rfl) (by simp) ?_
        refine (ReadyL.cons rfl (fun K hK => ?_) (ReadyL.cons rfl (fun K hK => ?_) ReadyL.nil))
        ·
          go_simp
          refine (test_any _ _ _ _).mono ?_
          rintro e w23' ⟨rfl, hb23⟩
          have HB23 := Lib.hid (HB0r.out.trans (hb23.mono HB0r.out.size))
          clear hb23
          refine hK.out _ _ (fun _ => HB23.out) (fun _ => ?_)
          clear hK K
          try simp only [Act.put, List.setIfInBounds_toArray, List.set_cons_zero, List.set_cons_succ]
          refine wpAnyL_ready (rs := [2, 9]) (by kernel_rfl) (by simp) ?_
          refine (ReadyL.cons rfl (fun K hK => ?_) (ReadyL.cons rfl (fun K hK => ?_) ReadyL.nil))
          ·
            go_simp
            have HB24 := Lib.hid (HB23.out.alloc HB23.out.size (.cells (Vt nmMilitary 1 1 ++ Vt nmMilitary 1 0) 24))
            have HS24 := Lib.hid (alk w23' (.cells (Vt nmMilitary 1 1 ++ Vt nmMilitary 1 0) 24) (k := w23'.heap.size) (by simp))
            refine hK.out _ _ (fun _ => HB24.out) (fun _ => ?_)
            clear hK K
            try simp only [Act.put, List.setIfInBounds_toArray, List.set_cons_zero, List.set_cons_succ]
            refine wpAnyL_pure (i := 3) (oi := _) (v := ?_) (some 42) rfl rfl (by kernel_rfl) (by kernel_rfl) (by kernel_rfl) (by kernel_rfl) (fun _ _ _ h => h) (fun _ => HB24.out) (Or.inl ⟨by rfl, ?_⟩) ?_
            rotate_left
            · intro W9 hSw; go_simp; try with_reducible rfl
            try simp only [Act.put, List.setIfInBounds_toArray, List.set_cons_zero, List.set_cons_succ]
            refine wpAnyL_ready (rs := [5, 9]) (by kernel_rfl) (by simp) ?_
            refine (ReadyL.cons rfl (fun K hK => ?_) (ReadyL.cons rfl (fun K hK => ?_) ReadyL.nil))
            ·
              go_simp
              refine (build_at eC AnyB AnyB 2 (some ⟨w23'.heap.size, 0, none⟩) 2 (Vd AD cD) _ (two_at HS24.out (by unfold I64; omega) (by decide) (by unfold I64; omega) (by unfold I64; omega) (by decide) (by unfold I64; omega) (by unfold I64; omega)) (by rw [nodesF_eq]; simp [fmC, tst, nodesF_eq]) (fcs_keep HDf.out HB24.out) (HT.out _ (HBW.out.trans (HB24.out.mono HBW.out.size)))).mono ?_
              rintro e w25' ⟨AX, nX, cX, rfl, hn25, hb25⟩
              have HN25 := Lib.hid hn25
              have HB25 := Lib.hid (HB24.out.trans (hb25.mono HB24.out.size))
              clear hb25 hn25
              refine hK.out _ _ (fun _ => HB25.out) (fun _ => ?_)
              clear hK K
              try simp only [Act.put, List.setIfInBounds_toArray, List.set_cons_zero, List.set_cons_succ]
              refine wpAnyL_pure (i := 6) (oi := _) (v := ?_) (some 38) rfl rfl (by kernel_rfl) (by kernel_rfl) (by kernel_rfl) (by kernel_rfl) (fun _ _ _ h => h) (fun _ => HB25.out) (Or.inl ⟨by rfl, ?_⟩) ?_
              rotate_left
              · intro W9 hSw; go_simp; try with_reducible rfl
              try simp only [Act.put, List.setIfInBounds_toArray, List.set_cons_zero, List.set_cons_succ]
              refine wpAnyL_pure (i := 7) (oi := _) (v := ?_) (some 45) rfl rfl (by kernel_rfl) (by kernel_rfl) (by kernel_rfl) (by kernel_rfl) (fun _ _ _ h => h) (fun _ => HB25.out) (Or.inl ⟨by rfl, ?_⟩) ?_
              rotate_left
              · intro W9 hSw; go_simp; try with_reducible rfl
              try simp only [Act.put, List.setIfInBounds_toArray, List.set_cons_zero, List.set_cons_succ]
              refine wpAnyL_pure (i := 8) (oi := _) (v := ?_) (some 46) rfl rfl (by kernel_rfl) (by kernel_rfl) (by kernel_rfl) (by kernel_rfl) (fun _ _ _ h => h) (fun _ => HB25.out) (Or.inl ⟨by rfl, ?_⟩) ?_
              rotate_left
              · intro W9 hSw; go_simp; try with_reducible rfl
              try simp only [Act.put, List.setIfInBounds_toArray, List.set_cons_zero, List.set_cons_succ]
              refine wpAnyL_ready (rs := [9]) (by kernel_rfl) (by simp) ?_
              refine (ReadyL.cons rfl (fun K hK => ?_) ReadyL.nil)
              go_simp
              have HB26 := Lib.hid (HB25.out.alloc HB25.out.size (.cells #[.slice none 0 0] 34))
              have HX26 := Lib.hid (alk w25' (.cells #[.slice none 0 0] 34) (k := w25'.heap.size) (by simp))
              have HZ26 := Lib.hid (show WB.heap.size ≤ w25'.heap.size from by have := HB25.out.size; simpa using this)
              have HS26 := Lib.hid (old_ (o := .cells #[.slice none 0 0] 34) HS24.out)
              refine hK.out _ _ (fun _ => HB26.out) (fun _ => ?_)
              clear hK K
              try simp only [Act.put, List.setIfInBounds_toArray, List.set_cons_zero, List.set_cons_succ]
              refine wpAnyL_ready (rs := [10]) (by kernel_rfl) (by simp) ?_
              refine (ReadyL.cons rfl (fun K hK => ?_) ReadyL.nil)
              go_simp
              have HC27 := Lib.hid (shut_alloc (va := .slice AX nX cX) HB25.out HN25.out)
              refine hK.out _ _ (fun _ => HC27.out.2.2) (fun _ => ?_)
              clear hK K
              try simp only [Act.put, List.setIfInBounds_toArray, List.set_cons_zero, List.set_cons_succ]
              refine wpAnyL_pure (i := 11) (oi := _) (v := ?_) (some 9) rfl rfl (by kernel_rfl) (by kernel_rfl) (by kernel_rfl) (by kernel_rfl) (fun _ _ _ h => h) (fun _ => HC27.out.2.2) (Or.inl ⟨by rfl, ?_⟩) ?_
              rotate_left
              · intro W9 hSw; go_simp; try with_reducible rfl
              try simp only [Act.put, List.setIfInBounds_toArray, List.set_cons_zero, List.set_cons_succ]
              refine wpAnyL_done (by kernel_rfl) ?_ _
              go_wp2_with fail
              go_meet
              exact ⟨_, _, _, _, rfl, rfl, Lib.hid HC27.out.1, Lib.hid HC27.out.2.1, Lib.hid HC27.out.2.2⟩
            ·
              go_simp
              have HB28 := Lib.hid (HB24.out.alloc HB24.out.size (.cells #[.slice none 0 0] 34))
              have HX28 := Lib.hid (alk (w23'.alloc (.cells (Vt nmMilitary 1 1 ++ Vt nmMilitary 1 0) 24)) (.cells #[.slice none 0 0] 34) (k := w23'.heap.size + 1) (by simp))
              have HZ28 := Lib.hid (show WB.heap.size ≤ w23'.heap.size + 1 from by have := HB24.out.size; simpa using this)
              have HS28 := Lib.hid (old_ (o := .cells #[.slice none 0 0] 34) HS24.out)
              refine hK.out _ _ (fun _ => HB28.out) (fun _ => ?_)
              clear hK K
              try simp only [Act.put, List.setIfInBounds_toArray, List.set_cons_zero, List.set_cons_succ]
              refine wpAnyL_ready (rs := [5]) (by kernel_rfl) (by simp) ?_
              refine (ReadyL.cons rfl (fun K hK => ?_) ReadyL.nil)
              go_simp
              refine (build_at eC AnyB AnyB 2 (some ⟨w23'.heap.size, 0, none⟩) 2 (Vd AD cD) _ (two_at HS28.out (by unfold I64; omega) (by decide) (by unfold I64; omega) (by unfold I64; omega) (by decide) (by unfold I64; omega) (by unfold I64; omega)) (by rw [nodesF_eq]; simp [fmC, tst, nodesF_eq]) (fcs_keep HDf.out HB28.out) (HT.out _ (HBW.out.trans (HB28.out.mono HBW.out.size)))).mono ?_
              rintro e w29' ⟨AX, nX, cX, rfl, hn29, hb29⟩
              have HN29 := Lib.hid hn29
              have HB29 := Lib.hid (HB28.out.trans (hb29.mono HB28.out.size))
              have HX29 := Lib.hid (below_ hb29 HX28.out)
              clear hb29 hn29
              refine hK.out _ _ (fun _ => HB29.out) (fun _ => ?_)
              clear hK K
              try simp only [Act.put, List.setIfInBounds_toArray, List.set_cons_zero, List.set_cons_succ]
              refine wpAnyL_pure (i := 6) (oi := _) (v := ?_) (some 38) rfl rfl (by kernel_rfl) (by kernel_rfl) (by kernel_rfl) (by kernel_rfl) (fun _ _ _ h => h) (fun _ => HB29.out) (Or.inl ⟨by rfl, ?_⟩) ?_
              rotate_left
              · intro W9 hSw; go_simp; try with_reducible rfl
              try simp only [Act.put, List.setIfInBounds_toArray, List.set_cons_zero, List.set_cons_succ]
              refine wpAnyL_pure (i := 7) (oi := _) (v := ?_) (some 45) rfl rfl (by kernel_rfl) (by kernel_rfl) (by kernel_rfl) (by kernel_rfl) (fun _ _ _ h => h) (fun _ => HB29.out) (Or.inl ⟨by rfl, ?_⟩) ?_
              rotate_left
              · intro W9 hSw; go_simp; try with_reducible rfl
              try simp only [Act.put, List.setIfInBounds_toArray, List.set_cons_zero, List.set_cons_succ]
              refine wpAnyL_pure (i := 8) (oi := _) (v := ?_) (some 46) rfl rfl (by kernel_rfl) (by kernel_rfl) (by kernel_rfl) (by kernel_rfl) (fun _ _ _ h => h) (fun _ => HB29.out) (Or.inl ⟨by rfl, ?_⟩) ?_
              rotate_left
              · intro W9 hSw; go_simp; try with_reducible rfl
              try simp only [Act.put, List.setIfInBounds_toArray, List.set_cons_zero, List.set_cons_succ]
              refine wpAnyL_ready (rs := [10]) (by kernel_rfl) (by simp) ?_
              refine (ReadyL.cons rfl (fun K hK => ?_) ReadyL.nil)
              obtain ⟨q0, qf⟩ := one_ HX29.out
              have lq := blt_ HX29.out
              go_simp
              clear q0 qf lq
              have HC30 := Lib.hid (shut_store (va := .slice AX nX cX) HB29.out HZ28.out HX29.out (nds_keep HN29.out (Below.refl _ _)))
              refine hK.out _ _ (fun _ => HC30.out.2.2) (fun _ => ?_)
              clear hK K
              try simp only [Act.put, List.setIfInBounds_toArray, List.set_cons_zero, List.set_cons_succ]
              refine wpAnyL_pure (i := 11) (oi := _) (v := ?_) (some 9) rfl rfl (by kernel_rfl) (by kernel_rfl) (by kernel_rfl) (by kernel_rfl) (fun _ _ _ h => h) (fun _ => HC30.out.2.2) (Or.inl ⟨by rfl, ?_⟩) ?_
              rotate_left
              · intro W9 hSw; go_simp; try with_reducible rfl
              try simp only [Act.put, List.setIfInBounds_toArray, List.set_cons_zero, List.set_cons_succ]
              refine wpAnyL_done (by kernel_rfl) ?_ _
              go_wp2_with fail
              go_meet
              exact ⟨_, _, _, _, rfl, rfl, Lib.hid HC30.out.1, Lib.hid HC30.out.2.1, Lib.hid HC30.out.2.2⟩
          ·
            go_simp
            have HB31 := Lib.hid (HB23.out.alloc HB23.out.size (.cells #[.slice none 0 0] 34))
            have HX31 := Lib.hid (alk w23' (.cells #[.slice none 0 0] 34) (k := w23'.heap.size) (by simp))
            have HZ31 := Lib.hid (show WB.heap.size ≤ w23'.heap.size from by have := HB23.out.size; simpa using this)
            refine hK.out _ _ (fun _ => HB31.out) (fun _ => ?_)
            clear hK K
            try simp only [Act.put, List.setIfInBounds_toArray, List.set_cons_zero, List.set_cons_succ]
            refine wpAnyL_ready (rs := [2]) (by kernel_rfl) (by simp) ?_
            refine (ReadyL.cons rfl (fun K hK => ?_) ReadyL.nil)
            go_simp
            have HB32 := Lib.hid (HB31.out.alloc HB31.out.size (.cells (Vt nmMilitary 1 1 ++ Vt nmMilitary 1 0) 24))
            have HS32 := Lib.hid (alk (w23'.alloc (.cells #[.slice none 0 0] 34)) (.cells (Vt nmMilitary 1 1 ++ Vt nmMilitary 1 0) 24) (k := w23'.heap.size + 1) (by simp))
            have HX32 := Lib.hid (old_ (o := .cells (Vt nmMilitary 1 1 ++ Vt nmMilitary 1 0) 24) HX31.out)
            refine hK.out _ _ (fun _ => HB32.out) (fun _ => ?_)
            clear hK K
            try simp only [Act.put, List.setIfInBounds_toArray, List.set_cons_zero, List.set_cons_succ]
            refine wpAnyL_pure (i := 3) (oi := _) (v := ?_) (some 42) rfl rfl (by kernel_rfl) (by kernel_rfl) (by kernel_rfl) (by kernel_rfl) (fun _ _ _ h => h) (fun _ => HB32.out) (Or.inl ⟨by rfl, ?_⟩) ?_
            rotate_left
            · intro W9 hSw; go_simp; try with_reducible rfl
            try simp only [Act.put, List.setIfInBounds_toArray, List.set_cons_zero, List.set_cons_succ]
            refine wpAnyL_ready (rs := [5]) (by kernel_rfl) (by simp) ?_
            refine (ReadyL.cons rfl (fun K hK => ?_) ReadyL.nil)
            go_simp
            refine (build_at eC AnyB AnyB 2 (some ⟨w23'.heap.size + 1, 0, none⟩) 2 (Vd AD cD) _ (two_at HS32.out (by unfold I64; omega) (by decide) (by unfold I64; omega) (by unfold I64; omega) (by decide) (by unfold I64; omega) (by unfold I64; omega)) (by rw [nodesF_eq]; simp [fmC, tst, nodesF_eq]) (fcs_keep HDf.out HB32.out) (HT.out _ (HBW.out.trans (HB32.out.mono HBW.out.size)))).mono ?_
            rintro e w33' ⟨AX, nX, cX, rfl, hn33, hb33⟩
            have HN33 := Lib.hid hn33
            have HB33 := Lib.hid (HB32.out.trans (hb33.mono HB32.out.size))
            have HX33 := Lib.hid (below_ hb33 HX32.out)
            clear hb33 hn33
            refine hK.out _ _ (fun _ => HB33.out) (fun _ => ?_)
            clear hK K
            try simp only [Act.put, List.setIfInBounds_toArray, List.set_cons_zero, List.set_cons_succ]
            refine wpAnyL_pure (i := 6) (oi := _) (v := ?_) (some 38) rfl rfl (by kernel_rfl) (by kernel_rfl) (by kernel_rfl) (by kernel_rfl) (fun _ _ _ h => h) (fun _ => HB33.out) (Or.inl ⟨by rfl, ?_⟩) ?_
            rotate_left
            · intro W9 hSw; go_simp; try with_reducible rfl
            try simp only [Act.put, List.setIfInBounds_toArray, List.set_cons_zero, List.set_cons_succ]
            refine wpAnyL_pure (i := 7) (oi := _) (v := ?_) (some 45) rfl rfl (by kernel_rfl) (by kernel_rfl) (by kernel_rfl) (by kernel_rfl) (fun _ _ _ h => h) (fun _ => HB33.out) (Or.inl ⟨by rfl, ?_⟩) ?_
            rotate_left
            · intro W9 hSw; go_simp; try with_reducible rfl
            try simp only [Act.put, List.setIfInBounds_toArray, List.set_cons_zero, List.set_cons_succ]
            refine wpAnyL_pure (i := 8) (oi := _) (v := ?_) (some 46) rfl rfl (by kernel_rfl) (by kernel_rfl) (by kernel_rfl) (by kernel_rfl) (fun _ _ _ h => h) (fun _ => HB33.out) (Or.inl ⟨by rfl, ?_⟩) ?_
            rotate_left
            · intro W9 hSw; go_simp; try with_reducible rfl
            try simp only [Act.put, List.setIfInBounds_toArray, List.set_cons_zero, List.set_cons_succ]
            refine wpAnyL_ready (rs := [10]) (by kernel_rfl) (by simp) ?_
            refine (ReadyL.cons rfl (fun K hK => ?_) ReadyL.nil)
            obtain ⟨q0, qf⟩ := one_ HX33.out
            have lq := blt_ HX33.out
            go_simp
            clear q0 qf lq
            have HC34 := Lib.hid (shut_store (va := .slice AX nX cX) HB33.out HZ31.out HX33.out (nds_keep HN33.out (Below.refl _ _)))
            refine hK.out _ _ (fun _ => HC34.out.2.2) (fun _ => ?_)
            clear hK K
            try simp only [Act.put, List.setIfInBounds_toArray, List.set_cons_zero, List.set_cons_succ]
            refine wpAnyL_pure (i := 11) (oi := _) (v := ?_) (some 9) rfl rfl (by kernel_rfl) (by kernel_rfl) (by kernel_rfl) (by kernel_rfl) (fun _ _ _ h => h) (fun _ => HC34.out.2.2) (Or.inl ⟨by rfl, ?_⟩) ?_
            rotate_left
            · intro W9 hSw; go_simp; try with_reducible rfl
            try simp only [Act.put, List.setIfInBounds_toArray, List.set_cons_zero, List.set_cons_succ]
            refine wpAnyL_done (by kernel_rfl) ?_ _
            go_wp2_with fail
            go_meet
            exact ⟨_, _, _, _, rfl, rfl, Lib.hid HC34.out.1, Lib.hid HC34.out.2.1, Lib.hid HC34.out.2.2⟩
        ·
          go_simp
          have HB35 := Lib.hid (HB0r.out.alloc HB0r.out.size (.cells #[.slice none 0 0] 34))
          have HX35 := Lib.hid (alk WB.drew (.cells #[.slice none 0 0] 34) (k := WB.heap.size) (by simp))
          have HZ35 := Lib.hid (show WB.heap.size ≤ WB.heap.size from Nat.le_refl _)
          refine hK.out _ _ (fun _ => HB35.out) (fun _ => ?_)
          clear hK K
          try simp only [Act.put, List.setIfInBounds_toArray, List.set_cons_zero, List.set_cons_succ]
          refine wpAnyL_ready (rs := [1]) (by kernel_rfl) (by simp) ?_
          refine (ReadyL.cons rfl (fun K hK => ?_) ReadyL.nil)
          go_simp
          refine (test_any _ _ _ _).mono ?_
          rintro e w36' ⟨rfl, hb36⟩
          have HB36 := Lib.hid (HB35.out.trans (hb36.mono HB35.out.size))
          have HX36 := Lib.hid (below_ hb36 HX35.out)
          clear hb36
          refine hK.out _ _ (fun _ => HB36.out) (fun _ => ?_)
          clear hK K
          try simp only [Act.put, List.setIfInBounds_toArray, List.set_cons_zero, List.set_cons_succ]
          refine wpAnyL_ready (rs := [2]) (by kernel_rfl) (by simp) ?_
          refine (ReadyL.cons rfl (fun K hK => ?_) ReadyL.nil)
          go_simp
          have HB37 := Lib.hid (HB36.out.alloc HB36.out.size (.cells (Vt nmMilitary 1 1 ++ Vt nmMilitary 1 0) 24))
          have HS37 := Lib.hid (alk w36' (.cells (Vt nmMilitary 1 1 ++ Vt nmMilitary 1 0) 24) (k := w36'.heap.size) (by simp))
          have HX37 := Lib.hid (old_ (o := .cells (Vt nmMilitary 1 1 ++ Vt nmMilitary 1 0) 24) HX36.out)
          refine hK.out _ _ (fun _ => HB37.out) (fun _ => ?_)
          clear hK K
          try simp only [Act.put, List.setIfInBounds_toArray, List.set_cons_zero, List.set_cons_succ]
          refine wpAnyL_pure (i := 3) (oi := _) (v := ?_) (some 42) rfl rfl (by kernel_rfl) (by kernel_rfl) (by kernel_rfl) (by kernel_rfl) (fun _ _ _ h => h) (fun _ => HB37.out) (Or.inl ⟨by rfl, ?_⟩) ?_
          rotate_left
          · intro W9 hSw; go_simp; try with_reducible rfl
          try simp only [Act.put, List.setIfInBounds_toArray, List.set_cons_zero, List.set_cons_succ]
          refine wpAnyL_ready (rs := [5]) (by kernel_rfl) (by simp) ?_
          refine (ReadyL.cons rfl (fun K hK => ?_) ReadyL.nil)
          go_simp
          refine (build_at eC AnyB AnyB 2 (some ⟨w36'.heap.size, 0, none⟩) 2 (Vd AD cD) _ (two_at HS37.out (by unfold I64; omega) (by decide) (by unfold I64; omega) (by unfold I64; omega) (by decide) (by unfold I64; omega) (by unfold I64; omega)) (by rw [nodesF_eq]; simp [fmC, tst, nodesF_eq]) (fcs_keep HDf.out HB37.out) (HT.out _ (HBW.out.trans (HB37.out.mono HBW.out.size)))).mono ?_
          rintro e w38' ⟨AX, nX, cX, rfl, hn38, hb38⟩
          have HN38 := Lib.hid hn38
          have HB38 := Lib.hid (HB37.out.trans (hb38.mono HB37.out.size))
          have HX38 := Lib.hid (below_ hb38 HX37.out)
          clear hb38 hn38
          refine hK.out _ _ (fun _ => HB38.out) (fun _ => ?_)
          clear hK K
          try simp only [Act.put, List.setIfInBounds_toArray, List.set_cons_zero, List.set_cons_succ]
          refine wpAnyL_pure (i := 6) (oi := _) (v := ?_) (some 38) rfl rfl (by kernel_rfl) (by kernel_rfl) (by kernel_rfl) (by kernel_rfl) (fun _ _ _ h => h) (fun _ => HB38.out) (Or.inl ⟨by rfl, ?_⟩) ?_
          rotate_left
          · intro W9 hSw; go_simp; try with_reducible rfl
          try simp only [Act.put, List.setIfInBounds_toArray, List.set_cons_zero, List.set_cons_succ]
          refine wpAnyL_pure (i := 7) (oi := _) (v := ?_) (some 45) rfl rfl (by kernel_rfl) (by kernel_rfl) (by kernel_rfl) (by kernel_rfl) (fun _ _ _ h => h) (fun _ => HB38.out) (Or.inl ⟨by rfl, ?_⟩) ?_
          rotate_left
          · intro W9 hSw; go_simp; try with_reducible rfl
          try simp only [Act.put, List.setIfInBounds_toArray, List.set_cons_zero, List.set_cons_succ]
          refine wpAnyL_pure (i := 8) (oi := _) (v := ?_) (some 46) rfl rfl (by kernel_rfl) (by kernel_rfl) (by kernel_rfl) (by kernel_rfl) (fun _ _ _ h => h) (fun _ => HB38.out) (Or.inl ⟨by rfl, ?_⟩) ?_
          rotate_left
          · intro W9 hSw; go_simp; try with_reducible rfl
          try simp only [Act.put, List.setIfInBounds_toArray, List.set_cons_zero, List.set_cons_succ]
          refine wpAnyL_ready (rs := [10]) (by kernel_rfl) (by simp) ?_
          refine (ReadyL.cons rfl (fun K hK => ?_) ReadyL.nil)
          obtain ⟨q0, qf⟩ := one_ HX38.out
          have lq := blt_ HX38.out
          go_simp
          clear q0 qf lq
          have HC39 := Lib.hid (shut_store (va := .slice AX nX cX) HB38.out HZ35.out HX38.out (nds_keep HN38.out (Below.refl _ _)))
          refine hK.out _ _ (fun _ => HC39.out.2.2) (fun _ => ?_)
          clear hK K
          try simp only [Act.put, List.setIfInBounds_toArray, List.set_cons_zero, List.set_cons_succ]
          refine wpAnyL_pure (i := 11) (oi := _) (v := ?_) (some 9) rfl rfl (by kernel_rfl) (by kernel_rfl) (by kernel_rfl) (by kernel_rfl) (fun _ _ _ h => h) (fun _ => HC39.out.2.2) (Or.inl ⟨by rfl, ?_⟩) ?_
          rotate_left
          · intro W9 hSw; go_simp; try with_reducible rfl
          try simp only [Act.put, List.setIfInBounds_toArray, List.set_cons_zero, List.set_cons_succ]
          refine wpAnyL_done (by kernel_rfl) ?_ _
          go_wp2_with fail
          go_meet
          exact ⟨_, _, _, _, rfl, rfl, Lib.hid HC39.out.1, Lib.hid HC39.out.2.1, Lib.hid HC39.out.2.2⟩
      case rest =>
        obtain ⟨bbC, ArC, nrC, crC, rfl, rfl, HGC, HGCf, HBn⟩ := hcut
        rename World => WC
        have HDb' := Lib.hid (below_ HBn.out HDb.out)
        have HDf' := Lib.hid (fcs_keep HDf.out HBn.out)
        have HMb' := Lib.hid (below_ HBn.out HMb.out)
        have HAb' := Lib.hid (below_ HBn.out HAb.out)
        have HAf' := Lib.hid (fm_keep HAf.out HBn.out)
        have HGA' := Lib.hid (below_ HBn.out HGA.out)
        have HGAf' := Lib.hid (nds_keep HGAf.out HBn.out)
        have HGB' := Lib.hid (below_ HBn.out HGB.out)
        have HGBf' := Lib.hid (nds_keep HGBf.out HBn.out)
        clear HDb HDf HMb HAb HAf HGA HGAf HGB HGBf
        have HDb := HDb'
        clear HDb'
        have HDf := HDf'
        clear HDf'
        have HMb := HMb'
        clear HMb'
        have HAb := HAb'
        clear HAb'
        have HAf := HAf'
        clear HAf'
        have HGA := HGA'
        clear HGA'
        have HGAf := HGAf'
        clear HGAf'
        have HGB := HGB'
        clear HGB'
        have HGBf := HGBf'
        clear HGBf'
        have HBW' := Lib.hid (HBW.out.trans ((HBn.out).mono HBW.out.size))
        clear HBW
        have HBW := HBW'
        clear HBW'
        clear HBn
        go_upto_region 7 with fail
        go_cut [10, 11] (fun v10 v11 wx => ∃ (b : Nat) (A' : Option Addr) (n' c' : Nat), v10 = .pointer (some ⟨b, 0, none⟩) ∧ v11 = .int .i64 0 ∧ Hid (wx.heap[b]? = some (.cells #[.slice A' n' c'] 34 (0, 0))) ∧ Hid (NdsAt AnyB wx (.slice A' n' c') [⟨false, 0, [], []⟩]) ∧ Hid (Below WC.heap.size WC wx))
        case first =>
          have HB0r := Lib.hid (show Below WC.heap.size WC WC.drew from (Below.refl _ _).drew)
          refine wp_region_L (S := fun W9 => Below WC.heap.size WC W9) (T := []) (by kernel_rfl) HB0r.out (fun _ => ?_)
          refine wpAnyL_load (i := 1) (oi := _) (v := ?_) (some 49) rfl rfl (by kernel_rfl) (by kernel_rfl) (by kernel_rfl) (by kernel_rfl) (fun _ _ _ h => h) (fun _ => HB0r.out) (by kernel_rfl) (by kernel_rfl) (Or.inl ⟨by rfl, ?_⟩) ?_
          rotate_left
          · intro W9 hSw; obtain ⟨d0, _⟩ := one_ (below_ hSw HDb.out); have ld := blt_ (below_ hSw HDb.out); obtain ⟨m0, m1, m2, m3, m4, _⟩ := five_ (below_ hSw HMb.out); have lm := blt_ (below_ hSw HMb.out); go_simp; try with_reducible rfl
          try simp only [Act.put, List.setIfInBounds_toArray, List.set_cons_zero, List.set_cons_succ]
          refine wpAnyL_ready (rs := [0, 6]) (by kernel_rfl) (by simp) ?_
          refine (ReadyL.cons rfl (fun K hK => ?_) (ReadyL.cons rfl (fun K hK => ?_) ReadyL.nil))
          ·
            go_simp
            refine (test_any _ _ _ _).mono ?_
            rintro e w40' ⟨rfl, hb40⟩
            have HB40 := Lib.hid (HB0r.out.trans (hb40.mono HB0r.out.size))
            clear hb40
            refine hK.out _ _ (fun _ => HB40.out) (fun _ => ?_)
            clear hK K
            try simp only [Act.put, List.setIfInBounds_toArray, List.set_cons_zero, List.set_cons_succ]
            refine wpAnyL_ready (rs := [2, 6]) (by kernel_rfl) (by simp) ?_
            refine (ReadyL.cons rfl (fun K hK => ?_) (ReadyL.cons rfl (fun K hK => ?_) ReadyL.nil))
            ·
              go_simp
              refine (build_at eD AnyB AnyB 1 none 0 (Vd AD cD) _ (tst_at _ _ _ (by decide) (by unfold I64; omega) (by unfold I64; omega)) (by rw [nodesF_eq]; simp [fmD, tst]) (fcs_keep HDf.out HB40.out) (HT.out _ (HBW.out.trans (HB40.out.mono HBW.out.size)))).mono ?_
              rintro e w41' ⟨AX, nX, cX, rfl, hn41, hb41⟩
              have HN41 := Lib.hid hn41
              have HB41 := Lib.hid (HB40.out.trans (hb41.mono HB40.out.size))
              clear hb41 hn41
              refine hK.out _ _ (fun _ => HB41.out) (fun _ => ?_)
              clear hK K
              try simp only [Act.put, List.setIfInBounds_toArray, List.set_cons_zero, List.set_cons_succ]
              refine wpAnyL_pure (i := 3) (oi := _) (v := ?_) (some 47) rfl rfl (by kernel_rfl) (by kernel_rfl) (by kernel_rfl) (by kernel_rfl) (fun _ _ _ h => h) (fun _ => HB41.out) (Or.inl ⟨by rfl, ?_⟩) ?_
              rotate_left
              · intro W9 hSw; go_simp; try with_reducible rfl
              try simp only [Act.put, List.setIfInBounds_toArray, List.set_cons_zero, List.set_cons_succ]
              refine wpAnyL_pure (i := 4) (oi := _) (v := ?_) (some 51) rfl rfl (by kernel_rfl) (by kernel_rfl) (by kernel_rfl) (by kernel_rfl) (fun _ _ _ h => h) (fun _ => HB41.out) (Or.inl ⟨by rfl, ?_⟩) ?_
              rotate_left
              · intro W9 hSw; go_simp; try with_reducible rfl
              try simp only [Act.put, List.setIfInBounds_toArray, List.set_cons_zero, List.set_cons_succ]
              refine wpAnyL_pure (i := 5) (oi := _) (v := ?_) (some 52) rfl rfl (by kernel_rfl) (by kernel_rfl) (by kernel_rfl) (by kernel_rfl) (fun _ _ _ h => h) (fun _ => HB41.out) (Or.inl ⟨by rfl, ?_⟩) ?_
              rotate_left
              · intro W9 hSw; go_simp; try with_reducible rfl
              try simp only [Act.put, List.setIfInBounds_toArray, List.set_cons_zero, List.set_cons_succ]
              refine wpAnyL_ready (rs := [6]) (by kernel_rfl) (by simp) ?_
              refine (ReadyL.cons rfl (fun K hK => ?_) ReadyL.nil)
              go_simp
              have HB42 := Lib.hid (HB41.out.alloc HB41.out.size (.cells #[.slice none 0 0] 34))
              have HX42 := Lib.hid (alk w41' (.cells #[.slice none 0 0] 34) (k := w41'.heap.size) (by simp))
              have HZ42 := Lib.hid (show WC.heap.size ≤ w41'.heap.size from by have := HB41.out.size; simpa using this)
              refine hK.out _ _ (fun _ => HB42.out) (fun _ => ?_)
              clear hK K
              try simp only [Act.put, List.setIfInBounds_toArray, List.set_cons_zero, List.set_cons_succ]
              refine wpAnyL_ready (rs := [7]) (by kernel_rfl) (by simp) ?_
              refine (ReadyL.cons rfl (fun K hK => ?_) ReadyL.nil)
              go_simp
              have HC43 := Lib.hid (shut_alloc (va := .slice AX nX cX) HB41.out HN41.out)
              refine hK.out _ _ (fun _ => HC43.out.2.2) (fun _ => ?_)
              clear hK K
              try simp only [Act.put, List.setIfInBounds_toArray, List.set_cons_zero, List.set_cons_succ]
              refine wpAnyL_pure (i := 8) (oi := _) (v := ?_) (some 11) rfl rfl (by kernel_rfl) (by kernel_rfl) (by kernel_rfl) (by kernel_rfl) (fun _ _ _ h => h) (fun _ => HC43.out.2.2) (Or.inl ⟨by rfl, ?_⟩) ?_
              rotate_left
              · intro W9 hSw; go_simp; try with_reducible rfl
              try simp only [Act.put, List.setIfInBounds_toArray, List.set_cons_zero, List.set_cons_succ]
              refine wpAnyL_done (by kernel_rfl) ?_ _
              go_wp2_with fail
              go_meet
              exact ⟨_, _, _, _, rfl, rfl, Lib.hid HC43.out.1, Lib.hid HC43.out.2.1, Lib.hid HC43.out.2.2⟩
            ·
              go_simp
              have HB44 := Lib.hid (HB40.out.alloc HB40.out.size (.cells #[.slice none 0 0] 34))
              have HX44 := Lib.hid (alk w40' (.cells #[.slice none 0 0] 34) (k := w40'.heap.size) (by simp))
              have HZ44 := Lib.hid (show WC.heap.size ≤ w40'.heap.size from by have := HB40.out.size; simpa using this)
              refine hK.out _ _ (fun _ => HB44.out) (fun _ => ?_)
              clear hK K
              try simp only [Act.put, List.setIfInBounds_toArray, List.set_cons_zero, List.set_cons_succ]
              refine wpAnyL_ready (rs := [2]) (by kernel_rfl) (by simp) ?_
              refine (ReadyL.cons rfl (fun K hK => ?_) ReadyL.nil)
              go_simp
              refine (build_at eD AnyB AnyB 1 none 0 (Vd AD cD) _ (tst_at _ _ _ (by decide) (by unfold I64; omega) (by unfold I64; omega)) (by rw [nodesF_eq]; simp [fmD, tst]) (fcs_keep HDf.out HB44.out) (HT.out _ (HBW.out.trans (HB44.out.mono HBW.out.size)))).mono ?_
              rintro e w45' ⟨AX, nX, cX, rfl, hn45, hb45⟩
              have HN45 := Lib.hid hn45
              have HB45 := Lib.hid (HB44.out.trans (hb45.mono HB44.out.size))
              have HX45 := Lib.hid (below_ hb45 HX44.out)
              clear hb45 hn45
              refine hK.out _ _ (fun _ => HB45.out) (fun _ => ?_)
              clear hK K
              try simp only [Act.put, List.setIfInBounds_toArray, List.set_cons_zero, List.set_cons_succ]
              refine wpAnyL_pure (i := 3) (oi := _) (v := ?_) (some 47) rfl rfl (by kernel_rfl) (by kernel_rfl) (by kernel_rfl) (by kernel_rfl) (fun _ _ _ h => h) (fun _ => HB45.out) (Or.inl ⟨by rfl, ?_⟩) ?_
              rotate_left
              · intro W9 hSw; go_simp; try with_reducible rfl
              try simp only [Act.put, List.setIfInBounds_toArray, List.set_cons_zero, List.set_cons_succ]
              refine wpAnyL_pure (i := 4) (oi := _) (v := ?_) (some 51) rfl rfl (by kernel_rfl) (by kernel_rfl) (by kernel_rfl) (by kernel_rfl) (fun _ _ _ h => h) (fun _ => HB45.out) (Or.inl ⟨by rfl, ?_⟩) ?_
              rotate_left
              · intro W9 hSw; go_simp; try with_reducible rfl
              try simp only [Act.put, List.setIfInBounds_toArray, List.set_cons_zero, List.set_cons_succ]
              refine wpAnyL_pure (i := 5) (oi := _) (v := ?_) (some 52) rfl rfl (by kernel_rfl) (by kernel_rfl) (by kernel_rfl) (by kernel_rfl) (fun _ _ _ h => h) (fun _ => HB45.out) (Or.inl ⟨by rfl, ?_⟩) ?_
              rotate_left
              · intro W9 hSw; go_simp; try with_reducible rfl
              try simp only [Act.put, List.setIfInBounds_toArray, List.set_cons_zero, List.set_cons_succ]
              refine wpAnyL_ready (rs := [7]) (by kernel_rfl) (by simp) ?_
              refine (ReadyL.cons rfl (fun K hK => ?_) ReadyL.nil)
              obtain ⟨q0, qf⟩ := one_ HX45.out
              have lq := blt_ HX45.out
              go_simp
              clear q0 qf lq
              have HC46 := Lib.hid (shut_store (va := .slice AX nX cX) HB45.out HZ44.out HX45.out (nds_keep HN45.out (Below.refl _ _)))
              refine hK.out _ _ (fun _ => HC46.out.2.2) (fun _ => ?_)
              clear hK K
              try simp only [Act.put, List.setIfInBounds_toArray, List.set_cons_zero, List.set_cons_succ]
              refine wpAnyL_pure (i := 8) (oi := _) (v := ?_) (some 11) rfl rfl (by kernel_rfl) (by kernel_rfl) (by kernel_rfl) (by kernel_rfl) (fun _ _ _ h => h) (fun _ => HC46.out.2.2) (Or.inl ⟨by rfl, ?_⟩) ?_
              rotate_left
              · intro W9 hSw; go_simp; try with_reducible rfl
              try simp only [Act.put, List.setIfInBounds_toArray, List.set_cons_zero, List.set_cons_succ]
              refine wpAnyL_done (by kernel_rfl) ?_ _
              go_wp2_with fail
              go_meet
              exact ⟨_, _, _, _, rfl, rfl, Lib.hid HC46.out.1, Lib.hid HC46.out.2.1, Lib.hid HC46.out.2.2⟩
          ·
            go_simp
            have HB47 := Lib.hid (HB0r.out.alloc HB0r.out.size (.cells #[.slice none 0 0] 34))
            have HX47 := Lib.hid (alk WC.drew (.cells #[.slice none 0 0] 34) (k := WC.heap.size) (by simp))
            have HZ47 := Lib.hid (show WC.heap.size ≤ WC.heap.size from Nat.le_refl _)
            refine hK.out _ _ (fun _ => HB47.out) (fun _ => ?_)
            clear hK K
            try simp only [Act.put, List.setIfInBounds_toArray, List.set_cons_zero, List.set_cons_succ]
            refine wpAnyL_ready (rs := [0]) (by kernel_rfl) (by simp) ?_
            refine (ReadyL.cons rfl (fun K hK => ?_) ReadyL.nil)
            go_simp
            refine (test_any _ _ _ _).mono ?_
            rintro e w48' ⟨rfl, hb48⟩
            have HB48 := Lib.hid (HB47.out.trans (hb48.mono HB47.out.size))
            have HX48 := Lib.hid (below_ hb48 HX47.out)
            clear hb48
            refine hK.out _ _ (fun _ => HB48.out) (fun _ => ?_)
            clear hK K
            try simp only [Act.put, List.setIfInBounds_toArray, List.set_cons_zero, List.set_cons_succ]
            refine wpAnyL_ready (rs := [2]) (by kernel_rfl) (by simp) ?_
            refine (ReadyL.cons rfl (fun K hK => ?_) ReadyL.nil)
            go_simp
            refine (build_at eD AnyB AnyB 1 none 0 (Vd AD cD) _ (tst_at _ _ _ (by decide) (by unfold I64; omega) (by unfold I64; omega)) (by rw [nodesF_eq]; simp [fmD, tst]) (fcs_keep HDf.out HB48.out) (HT.out _ (HBW.out.trans (HB48.out.mono HBW.out.size)))).mono ?_
            rintro e w49' ⟨AX, nX, cX, rfl, hn49, hb49⟩
            have HN49 := Lib.hid hn49
            have HB49 := Lib.hid (HB48.out.trans (hb49.mono HB48.out.size))
            have HX49 := Lib.hid (below_ hb49 HX48.out)
            clear hb49 hn49
            refine hK.out _ _ (fun _ => HB49.out) (fun _ => ?_)
            clear hK K
            try simp only [Act.put, List.setIfInBounds_toArray, List.set_cons_zero, List.set_cons_succ]
            refine wpAnyL_pure (i := 3) (oi := _) (v := ?_) (some 47) rfl rfl (by kernel_rfl) (by kernel_rfl) (by kernel_rfl) (by kernel_rfl) (fun _ _ _ h => h) (fun _ => HB49.out) (Or.inl ⟨by rfl, ?_⟩) ?_
            rotate_left
            · intro W9 hSw; go_simp; try with_reducible rfl
            try simp only [Act.put, List.setIfInBounds_toArray, List.set_cons_zero, List.set_cons_succ]
            refine wpAnyL_pure (i := 4) (oi := _) (v := ?_) (some 51) rfl rfl (by kernel_rfl) (by kernel_rfl) (by kernel_rfl) (by kernel_rfl) (fun _ _ _ h => h) (fun _ => HB49.out) (Or.inl ⟨by rfl, ?_⟩) ?_
            rotate_left
            · intro W9 hSw; go_simp; try with_reducible rfl
            try simp only [Act.put, List.setIfInBounds_toArray, List.set_cons_zero, List.set_cons_succ]
            refine wpAnyL_pure (i := 5) (oi := _) (v := ?_) (some 52) rfl rfl (by kernel_rfl) (by kernel_rfl) (by kernel_rfl) (by kernel_rfl) (fun _ _ _ h => h) (fun _ => HB49.out) (Or.inl ⟨by rfl, ?_⟩) ?_
            rotate_left
            · intro W9 hSw; go_simp; try with_reducible rfl
            try simp only [Act.put, List.setIfInBounds_toArray, List.set_cons_zero, List.set_cons_succ]
            refine wpAnyL_ready (rs := [7]) (by kernel_rfl) (by simp) ?_
            refine (ReadyL.cons rfl (fun K hK => ?_) ReadyL.nil)
            obtain ⟨q0, qf⟩ := one_ HX49.out
            have lq := blt_ HX49.out
            go_simp
            clear q0 qf lq
            have HC50 := Lib.hid (shut_store (va := .slice AX nX cX) HB49.out HZ47.out HX49.out (nds_keep HN49.out (Below.refl _ _)))
            refine hK.out _ _ (fun _ => HC50.out.2.2) (fun _ => ?_)
            clear hK K
            try simp only [Act.put, List.setIfInBounds_toArray, List.set_cons_zero, List.set_cons_succ]
            refine wpAnyL_pure (i := 8) (oi := _) (v := ?_) (some 11) rfl rfl (by kernel_rfl) (by kernel_rfl) (by kernel_rfl) (by kernel_rfl) (fun _ _ _ h => h) (fun _ => HC50.out.2.2) (Or.inl ⟨by rfl, ?_⟩) ?_
            rotate_left
            · intro W9 hSw; go_simp; try with_reducible rfl
            try simp only [Act.put, List.setIfInBounds_toArray, List.set_cons_zero, List.set_cons_succ]
            refine wpAnyL_done (by kernel_rfl) ?_ _
            go_wp2_with fail
            go_meet
            exact ⟨_, _, _, _, rfl, rfl, Lib.hid HC50.out.1, Lib.hid HC50.out.2.1, Lib.hid HC50.out.2.2⟩
        case rest =>
          obtain ⟨bbD, ArD, nrD, crD, rfl, rfl, HGD, HGDf, HBn⟩ := hcut
          rename World => WD
          have HDb' := Lib.hid (below_ HBn.out HDb.out)
          have HDf' := Lib.hid (fcs_keep HDf.out HBn.out)
          have HMb' := Lib.hid (below_ HBn.out HMb.out)
          have HAb' := Lib.hid (below_ HBn.out HAb.out)
          have HAf' := Lib.hid (fm_keep HAf.out HBn.out)
          have HGA' := Lib.hid (below_ HBn.out HGA.out)
          have HGAf' := Lib.hid (nds_keep HGAf.out HBn.out)
          have HGB' := Lib.hid (below_ HBn.out HGB.out)
          have HGBf' := Lib.hid (nds_keep HGBf.out HBn.out)
          have HGC' := Lib.hid (below_ HBn.out HGC.out)
          have HGCf' := Lib.hid (nds_keep HGCf.out HBn.out)
          clear HDb HDf HMb HAb HAf HGA HGAf HGB HGBf HGC HGCf
          have HDb := HDb'
          clear HDb'
          have HDf := HDf'
          clear HDf'
          have HMb := HMb'
          clear HMb'
          have HAb := HAb'
          clear HAb'
          have HAf := HAf'
          clear HAf'
          have HGA := HGA'
          clear HGA'
          have HGAf := HGAf'
          clear HGAf'
          have HGB := HGB'
          clear HGB'
          have HGBf := HGBf'
          clear HGBf'
          have HGC := HGC'
          clear HGC'
          have HGCf := HGCf'
          clear HGCf'
          have HBW' := Lib.hid (HBW.out.trans ((HBn.out).mono HBW.out.size))
          clear HBW
          have HBW := HBW'
          clear HBW'
          clear HBn
          go_upto_region 8 with fail
          go_cut [12, 13] (fun v12 v13 wx => ∃ (b : Nat) (A' : Option Addr) (n' c' : Nat), v12 = .pointer (some ⟨b, 0, none⟩) ∧ v13 = .int .i64 1 ∧ Hid (wx.heap[b]? = some (.cells #[.slice A' n' c'] 34 (0, 0))) ∧ Hid (NdsAt AnyB wx (.slice A' n' c') []) ∧ Hid (Below WD.heap.size WD wx))
          case first =>
            have HB0r := Lib.hid (show Below WD.heap.size WD WD.drew from (Below.refl _ _).drew)
            refine wp_region_L (S := fun W9 => Below WD.heap.size WD W9) (T := []) (by kernel_rfl) HB0r.out (fun _ => ?_)
            refine wpAnyL_load (i := 1) (oi := _) (v := ?_) (some 55) rfl rfl (by kernel_rfl) (by kernel_rfl) (by kernel_rfl) (by kernel_rfl) (fun _ _ _ h => h) (fun _ => HB0r.out) (by kernel_rfl) (by kernel_rfl) (Or.inl ⟨by rfl, ?_⟩) ?_
            rotate_left
            · intro W9 hSw; obtain ⟨d0, _⟩ := one_ (below_ hSw HDb.out); have ld := blt_ (below_ hSw HDb.out); obtain ⟨m0, m1, m2, m3, m4, _⟩ := five_ (below_ hSw HMb.out); have lm := blt_ (below_ hSw HMb.out); go_simp; try with_reducible rfl
            try simp only [Act.put, List.setIfInBounds_toArray, List.set_cons_zero, List.set_cons_succ]
            refine wpAnyL_ready (rs := [0, 6]) (by kernel_rfl) (by simp) ?_
            refine (ReadyL.cons rfl (fun K hK => ?_) (ReadyL.cons rfl (fun K hK => ?_) ReadyL.nil))
            ·
              go_simp
              refine (test_any _ _ _ _).mono ?_
              rintro e w51' ⟨rfl, hb51⟩
              have HB51 := Lib.hid (HB0r.out.trans (hb51.mono HB0r.out.size))
              clear hb51
              refine hK.out _ _ (fun _ => HB51.out) (fun _ => ?_)
              clear hK K
              try simp only [Act.put, List.setIfInBounds_toArray, List.set_cons_zero, List.set_cons_succ]
              refine wpAnyL_ready (rs := [2, 6]) (by kernel_rfl) (by simp) ?_
              refine (ReadyL.cons rfl (fun K hK => ?_) (ReadyL.cons rfl (fun K hK => ?_) ReadyL.nil))
              ·
                go_simp
                refine (build_at eE AnyB AnyB 1 none 0 (Vd AD cD) _ (tst_at _ _ _ (by decide) (by unfold I64; omega) (by unfold I64; omega)) (by rw [nodesF_eq]; simp [fmE, tst]) (fcs_keep HDf.out HB51.out) (HT.out _ (HBW.out.trans (HB51.out.mono HBW.out.size)))).mono ?_
                rintro e w52' ⟨AX, nX, cX, rfl, hn52, hb52⟩
                have HN52 := Lib.hid hn52
                have HB52 := Lib.hid (HB51.out.trans (hb52.mono HB51.out.size))
                clear hb52 hn52
                refine hK.out _ _ (fun _ => HB52.out) (fun _ => ?_)
                clear hK K
                try simp only [Act.put, List.setIfInBounds_toArray, List.set_cons_zero, List.set_cons_succ]
                refine wpAnyL_pure (i := 3) (oi := _) (v := ?_) (some 53) rfl rfl (by kernel_rfl) (by kernel_rfl) (by kernel_rfl) (by kernel_rfl) (fun _ _ _ h => h) (fun _ => HB52.out) (Or.inl ⟨by rfl, ?_⟩) ?_
                rotate_left
                · intro W9 hSw; go_simp; try with_reducible rfl
                try simp only [Act.put, List.setIfInBounds_toArray, List.set_cons_zero, List.set_cons_succ]
                refine wpAnyL_pure (i := 4) (oi := _) (v := ?_) (some 57) rfl rfl (by kernel_rfl) (by kernel_rfl) (by kernel_rfl) (by kernel_rfl) (fun _ _ _ h => h) (fun _ => HB52.out) (Or.inl ⟨by rfl, ?_⟩) ?_
                rotate_left
                · intro W9 hSw; go_simp; try with_reducible rfl
                try simp only [Act.put, List.setIfInBounds_toArray, List.set_cons_zero, List.set_cons_succ]
                refine wpAnyL_pure (i := 5) (oi := _) (v := ?_) (some 58) rfl rfl (by kernel_rfl) (by kernel_rfl) (by kernel_rfl) (by kernel_rfl) (fun _ _ _ h => h) (fun _ => HB52.out) (Or.inl ⟨by rfl, ?_⟩) ?_
                rotate_left
                · intro W9 hSw; go_simp; try with_reducible rfl
                try simp only [Act.put, List.setIfInBounds_toArray, List.set_cons_zero, List.set_cons_succ]
                refine wpAnyL_ready (rs := [6]) (by kernel_rfl) (by simp) ?_
                refine (ReadyL.cons rfl (fun K hK => ?_) ReadyL.nil)
                go_simp
                have HB53 := Lib.hid (HB52.out.alloc HB52.out.size (.cells #[.slice none 0 0] 34))
                have HX53 := Lib.hid (alk w52' (.cells #[.slice none 0 0] 34) (k := w52'.heap.size) (by simp))
                have HZ53 := Lib.hid (show WD.heap.size ≤ w52'.heap.size from by have := HB52.out.size; simpa using this)
                refine hK.out _ _ (fun _ => HB53.out) (fun _ => ?_)
                clear hK K
                try simp only [Act.put, List.setIfInBounds_toArray, List.set_cons_zero, List.set_cons_succ]
                refine wpAnyL_ready (rs := [7]) (by kernel_rfl) (by simp) ?_
                refine (ReadyL.cons rfl (fun K hK => ?_) ReadyL.nil)
                go_simp
                have HC54 := Lib.hid (shut_alloc (va := .slice AX nX cX) HB52.out HN52.out)
                refine hK.out _ _ (fun _ => HC54.out.2.2) (fun _ => ?_)
                clear hK K
                try simp only [Act.put, List.setIfInBounds_toArray, List.set_cons_zero, List.set_cons_succ]
                refine wpAnyL_pure (i := 8) (oi := _) (v := ?_) (some 13) rfl rfl (by kernel_rfl) (by kernel_rfl) (by kernel_rfl) (by kernel_rfl) (fun _ _ _ h => h) (fun _ => HC54.out.2.2) (Or.inl ⟨by rfl, ?_⟩) ?_
                rotate_left
                · intro W9 hSw; go_simp; try with_reducible rfl
                try simp only [Act.put, List.setIfInBounds_toArray, List.set_cons_zero, List.set_cons_succ]
                refine wpAnyL_done (by kernel_rfl) ?_ _
                go_wp2_with fail
                go_meet
                exact ⟨_, _, _, _, rfl, rfl, Lib.hid HC54.out.1, Lib.hid HC54.out.2.1, Lib.hid HC54.out.2.2⟩
              ·
                go_simp
                have HB55 := Lib.hid (HB51.out.alloc HB51.out.size (.cells #[.slice none 0 0] 34))
                have HX55 := Lib.hid (alk w51' (.cells #[.slice none 0 0] 34) (k := w51'.heap.size) (by simp))
                have HZ55 := Lib.hid (show WD.heap.size ≤ w51'.heap.size from by have := HB51.out.size; simpa using this)
                refine hK.out _ _ (fun _ => HB55.out) (fun _ => ?_)
                clear hK K
                try simp only [Act.put, List.setIfInBounds_toArray, List.set_cons_zero, List.set_cons_succ]
                refine wpAnyL_ready (rs := [2]) (by kernel_rfl) (by simp) ?_
                refine (ReadyL.cons rfl (fun K hK => ?_) ReadyL.nil)
                go_simp
                refine (build_at eE AnyB AnyB 1 none 0 (Vd AD cD) _ (tst_at _ _ _ (by decide) (by unfold I64; omega) (by unfold I64; omega)) (by rw [nodesF_eq]; simp [fmE, tst]) (fcs_keep HDf.out HB55.out) (HT.out _ (HBW.out.trans (HB55.out.mono HBW.out.size)))).mono ?_
                rintro e w56' ⟨AX, nX, cX, rfl, hn56, hb56⟩
                have HN56 := Lib.hid hn56
                have HB56 := Lib.hid (HB55.out.trans (hb56.mono HB55.out.size))
                have HX56 := Lib.hid (below_ hb56 HX55.out)
                clear hb56 hn56
                refine hK.out _ _ (fun _ => HB56.out) (fun _ => ?_)
                clear hK K
                try simp only [Act.put, List.setIfInBounds_toArray, List.set_cons_zero, List.set_cons_succ]
                refine wpAnyL_pure (i := 3) (oi := _) (v := ?_) (some 53) rfl rfl (by kernel_rfl) (by kernel_rfl) (by kernel_rfl) (by kernel_rfl) (fun _ _ _ h => h) (fun _ => HB56.out) (Or.inl ⟨by rfl, ?_⟩) ?_
                rotate_left
                · intro W9 hSw; go_simp; try with_reducible rfl
                try simp only [Act.put, List.setIfInBounds_toArray, List.set_cons_zero, List.set_cons_succ]
                refine wpAnyL_pure (i := 4) (oi := _) (v := ?_) (some 57) rfl rfl (by kernel_rfl) (by kernel_rfl) (by kernel_rfl) (by kernel_rfl) (fun _ _ _ h => h) (fun _ => HB56.out) (Or.inl ⟨by rfl, ?_⟩) ?_
                rotate_left
                · intro W9 hSw; go_simp; try with_reducible rfl
                try simp only [Act.put, List.setIfInBounds_toArray, List.set_cons_zero, List.set_cons_succ]
                refine wpAnyL_pure (i := 5) (oi := _) (v := ?_) (some 58) rfl rfl (by kernel_rfl) (by kernel_rfl) (by kernel_rfl) (by kernel_rfl) (fun _ _ _ h => h) (fun _ => HB56.out) (Or.inl ⟨by rfl, ?_⟩) ?_
                rotate_left
                · intro W9 hSw; go_simp; try with_reducible rfl
                try simp only [Act.put, List.setIfInBounds_toArray, List.set_cons_zero, List.set_cons_succ]
                refine wpAnyL_ready (rs := [7]) (by kernel_rfl) (by simp) ?_
                refine (ReadyL.cons rfl (fun K hK => ?_) ReadyL.nil)
                obtain ⟨q0, qf⟩ := one_ HX56.out
                have lq := blt_ HX56.out
                go_simp
                clear q0 qf lq
                have HC57 := Lib.hid (shut_store (va := .slice AX nX cX) HB56.out HZ55.out HX56.out (nds_keep HN56.out (Below.refl _ _)))
                refine hK.out _ _ (fun _ => HC57.out.2.2) (fun _ => ?_)
                clear hK K
                try simp only [Act.put, List.setIfInBounds_toArray, List.set_cons_zero, List.set_cons_succ]
                refine wpAnyL_pure (i := 8) (oi := _) (v := ?_) (some 13) rfl rfl (by kernel_rfl) (by kernel_rfl) (by kernel_rfl) (by kernel_rfl) (fun _ _ _ h => h) (fun _ => HC57.out.2.2) (Or.inl ⟨by rfl, ?_⟩) ?_
                rotate_left
                · intro W9 hSw; go_simp; try with_reducible rfl
                try simp only [Act.put, List.setIfInBounds_toArray, List.set_cons_zero, List.set_cons_succ]
                refine wpAnyL_done (by kernel_rfl) ?_ _
                go_wp2_with fail
                go_meet
                exact ⟨_, _, _, _, rfl, rfl, Lib.hid HC57.out.1, Lib.hid HC57.out.2.1, Lib.hid HC57.out.2.2⟩
            ·
              go_simp
              have HB58 := Lib.hid (HB0r.out.alloc HB0r.out.size (.cells #[.slice none 0 0] 34))
              have HX58 := Lib.hid (alk WD.drew (.cells #[.slice none 0 0] 34) (k := WD.heap.size) (by simp))
              have HZ58 := Lib.hid (show WD.heap.size ≤ WD.heap.size from Nat.le_refl _)
              refine hK.out _ _ (fun _ => HB58.out) (fun _ => ?_)
              clear hK K
              try simp only [Act.put, List.setIfInBounds_toArray, List.set_cons_zero, List.set_cons_succ]
              refine wpAnyL_ready (rs := [0]) (by kernel_rfl) (by simp) ?_
              refine (ReadyL.cons rfl (fun K hK => ?_) ReadyL.nil)
              go_simp
              refine (test_any _ _ _ _).mono ?_
              rintro e w59' ⟨rfl, hb59⟩
              have HB59 := Lib.hid (HB58.out.trans (hb59.mono HB58.out.size))
              have HX59 := Lib.hid (below_ hb59 HX58.out)
              clear hb59
              refine hK.out _ _ (fun _ => HB59.out) (fun _ => ?_)
              clear hK K
              try simp only [Act.put, List.setIfInBounds_toArray, List.set_cons_zero, List.set_cons_succ]
              refine wpAnyL_ready (rs := [2]) (by kernel_rfl) (by simp) ?_
              refine (ReadyL.cons rfl (fun K hK => ?_) ReadyL.nil)
              go_simp
              refine (build_at eE AnyB AnyB 1 none 0 (Vd AD cD) _ (tst_at _ _ _ (by decide) (by unfold I64; omega) (by unfold I64; omega)) (by rw [nodesF_eq]; simp [fmE, tst]) (fcs_keep HDf.out HB59.out) (HT.out _ (HBW.out.trans (HB59.out.mono HBW.out.size)))).mono ?_
              rintro e w60' ⟨AX, nX, cX, rfl, hn60, hb60⟩
              have HN60 := Lib.hid hn60
              have HB60 := Lib.hid (HB59.out.trans (hb60.mono HB59.out.size))
              have HX60 := Lib.hid (below_ hb60 HX59.out)
              clear hb60 hn60
              refine hK.out _ _ (fun _ => HB60.out) (fun _ => ?_)
              clear hK K
              try simp only [Act.put, List.setIfInBounds_toArray, List.set_cons_zero, List.set_cons_succ]
              refine wpAnyL_pure (i := 3) (oi := _) (v := ?_) (some 53) rfl rfl (by kernel_rfl) (by kernel_rfl) (by kernel_rfl) (by kernel_rfl) (fun _ _ _ h => h) (fun _ => HB60.out) (Or.inl ⟨by rfl, ?_⟩) ?_
              rotate_left
              · intro W9 hSw; go_simp; try with_reducible rfl
              try simp only [Act.put, List.setIfInBounds_toArray, List.set_cons_zero, List.set_cons_succ]
              refine wpAnyL_pure (i := 4) (oi := _) (v := ?_) (some 57) rfl rfl (by kernel_rfl) (by kernel_rfl) (by kernel_rfl) (by kernel_rfl) (fun _ _ _ h => h) (fun _ => HB60.out) (Or.inl ⟨by rfl, ?_⟩) ?_
              rotate_left
              · intro W9 hSw; go_simp; try with_reducible rfl
              try simp only [Act.put, List.setIfInBounds_toArray, List.set_cons_zero, List.set_cons_succ]
              refine wpAnyL_pure (i := 5) (oi := _) (v := ?_) (some 58) rfl rfl (by kernel_rfl) (by kernel_rfl) (by kernel_rfl) (by kernel_rfl) (fun _ _ _ h => h) (fun _ => HB60.out) (Or.inl ⟨by rfl, ?_⟩) ?_
              rotate_left
              · intro W9 hSw; go_simp; try with_reducible rfl
              try simp only [Act.put, List.setIfInBounds_toArray, List.set_cons_zero, List.set_cons_succ]
              refine wpAnyL_ready (rs := [7]) (by kernel_rfl) (by simp) ?_
              refine (ReadyL.cons rfl (fun K hK => ?_) ReadyL.nil)
              obtain ⟨q0, qf⟩ := one_ HX60.out
              have lq := blt_ HX60.out
              go_simp
              clear q0 qf lq
              have HC61 := Lib.hid (shut_store (va := .slice AX nX cX) HB60.out HZ58.out HX60.out (nds_keep HN60.out (Below.refl _ _)))
              refine hK.out _ _ (fun _ => HC61.out.2.2) (fun _ => ?_)
              clear hK K
              try simp only [Act.put, List.setIfInBounds_toArray, List.set_cons_zero, List.set_cons_succ]
              refine wpAnyL_pure (i := 8) (oi := _) (v := ?_) (some 13) rfl rfl (by kernel_rfl) (by kernel_rfl) (by kernel_rfl) (by kernel_rfl) (fun _ _ _ h => h) (fun _ => HC61.out.2.2) (Or.inl ⟨by rfl, ?_⟩) ?_
              rotate_left
              · intro W9 hSw; go_simp; try with_reducible rfl
              try simp only [Act.put, List.setIfInBounds_toArray, List.set_cons_zero, List.set_cons_succ]
              refine wpAnyL_done (by kernel_rfl) ?_ _
              go_wp2_with fail
              go_meet
              exact ⟨_, _, _, _, rfl, rfl, Lib.hid HC61.out.1, Lib.hid HC61.out.2.1, Lib.hid HC61.out.2.2⟩
          case rest =>
            obtain ⟨bbE, ArE, nrE, crE, rfl, rfl, HGE, HGEf, HBn⟩ := hcut
            rename World => WE
            have HDb' := Lib.hid (below_ HBn.out HDb.out)
            have HDf' := Lib.hid (fcs_keep HDf.out HBn.out)
            have HMb' := Lib.hid (below_ HBn.out HMb.out)
            have HAb' := Lib.hid (below_ HBn.out HAb.out)
            have HAf' := Lib.hid (fm_keep HAf.out HBn.out)
            have HGA' := Lib.hid (below_ HBn.out HGA.out)
            have HGAf' := Lib.hid (nds_keep HGAf.out HBn.out)
            have HGB' := Lib.hid (below_ HBn.out HGB.out)
            have HGBf' := Lib.hid (nds_keep HGBf.out HBn.out)
            have HGC' := Lib.hid (below_ HBn.out HGC.out)
            have HGCf' := Lib.hid (nds_keep HGCf.out HBn.out)
            have HGD' := Lib.hid (below_ HBn.out HGD.out)
            have HGDf' := Lib.hid (nds_keep HGDf.out HBn.out)
            clear HDb HDf HMb HAb HAf HGA HGAf HGB HGBf HGC HGCf HGD HGDf
            have HDb := HDb'
            clear HDb'
            have HDf := HDf'
            clear HDf'
            have HMb := HMb'
            clear HMb'
            have HAb := HAb'
            clear HAb'
            have HAf := HAf'
            clear HAf'
            have HGA := HGA'
            clear HGA'
            have HGAf := HGAf'
            clear HGAf'
            have HGB := HGB'
            clear HGB'
            have HGBf := HGBf'
            clear HGBf'
            have HGC := HGC'
            clear HGC'
            have HGCf := HGCf'
            clear HGCf'
            have HGD := HGD'
            clear HGD'
            have HGDf := HGDf'
            clear HGDf'
            have HBW' := Lib.hid (HBW.out.trans ((HBn.out).mono HBW.out.size))
            clear HBW
            have HBW := HBW'
            clear HBW'
            clear HBn
            have hBX0 : Below WE.heap.size WE WE := Below.refl _ _
            have hzX0 : WE.heap.size = WE.heap.size := rfl
            obtain ⟨X1, hX1⟩ : ∃ XX, XX = WE.alloc (.cells #[.int .i64 18] 3) := ⟨_, rfl⟩
            have hzX1 : X1.heap.size = WE.heap.size + 1 := by rw [hX1]; simp
            have hBX1 : Below WE.heap.size WE X1 := by rw [hX1]; exact hBX0.alloc hBX0.size _
            have hN0 : X1.heap[WE.heap.size]? = some (.cells #[.int .i64 18] 3 (0, 0)) := by rw [hX1]; exact alk _ _ hzX0
            have hU1 : ∀ {q : Nat} {x : Obj}, WE.heap[q]? = some x → X1.heap[q]? = some x := fun h => by rw [hX1]; exact old_ h
            obtain ⟨X2, hX2⟩ : ∃ XX, XX = X1.alloc (.cells #[.int .i64 1, .int .i64 2] 3) := ⟨_, rfl⟩
            have hzX2 : X2.heap.size = WE.heap.size + 1 + 1 := by rw [hX2]; simp [hzX1]
            have hBX2 : Below WE.heap.size WE X2 := by rw [hX2]; exact hBX1.alloc hBX1.size _
            have hN1 : X2.heap[WE.heap.size + 1]? = some (.cells #[.int .i64 1, .int .i64 2] 3 (0, 0)) := by rw [hX2]; exact alk _ _ hzX1
            have hU2 : ∀ {q : Nat} {x : Obj}, X1.heap[q]? = some x → X2.heap[q]? = some x := fun h => by rw [hX2]; exact old_ h
            obtain ⟨X3, hX3⟩ : ∃ XX, XX = X2.alloc (.cells #[.int .i64 1] 3) := ⟨_, rfl⟩
            have hzX3 : X3.heap.size = WE.heap.size + 1 + 1 + 1 := by rw [hX3]; simp [hzX2]
            have hBX3 : Below WE.heap.size WE X3 := by rw [hX3]; exact hBX2.alloc hBX2.size _
            have hN2 : X3.heap[WE.heap.size + 1 + 1]? = some (.cells #[.int .i64 1] 3 (0, 0)) := by rw [hX3]; exact alk _ _ hzX2
            have hU3 : ∀ {q : Nat} {x : Obj}, X2.heap[q]? = some x → X3.heap[q]? = some x := fun h => by rw [hX3]; exact old_ h
            obtain ⟨X4, hX4⟩ : ∃ XX, XX = X3.alloc (.cells #[.int .i64 1, .int .i64 3] 3) := ⟨_, rfl⟩
            have hzX4 : X4.heap.size = WE.heap.size + 1 + 1 + 1 + 1 := by rw [hX4]; simp [hzX3]
            have hBX4 : Below WE.heap.size WE X4 := by rw [hX4]; exact hBX3.alloc hBX3.size _
            have hN3 : X4.heap[WE.heap.size + 1 + 1 + 1]? = some (.cells #[.int .i64 1, .int .i64 3] 3 (0, 0)) := by rw [hX4]; exact alk _ _ hzX3
            have hU4 : ∀ {q : Nat} {x : Obj}, X3.heap[q]? = some x → X4.heap[q]? = some x := fun h => by rw [hX4]; exact old_ h
            obtain ⟨X5, hX5⟩ : ∃ XX, XX = X4.alloc (.cells #[.bool false, .int .i64 0, .slice (some ⟨WE.heap.size, 0, none⟩) 1 1, .slice (some ⟨WE.heap.size + 1, 0, none⟩) 2 2, .bool false, .int .i64 0, .slice none 0 0, .slice none 0 0, .bool false, .int .i64 1, .slice (some ⟨WE.heap.size + 1 + 1, 0, none⟩) 1 1, .slice (some ⟨WE.heap.size + 1 + 1 + 1, 0, none⟩) 2 2, .bool true, .int .i64 0, .slice none 0 0, .slice none 0 0] 55) := ⟨_, rfl⟩
            have hzX5 : X5.heap.size = WE.heap.size + 1 + 1 + 1 + 1 + 1 := by rw [hX5]; simp [hzX4]
            have hBX5 : Below WE.heap.size WE X5 := by rw [hX5]; exact hBX4.alloc hBX4.size _
            have hN4 : X5.heap[WE.heap.size + 1 + 1 + 1 + 1]? = some (.cells #[.bool false, .int .i64 0, .slice (some ⟨WE.heap.size, 0, none⟩) 1 1, .slice (some ⟨WE.heap.size + 1, 0, none⟩) 2 2, .bool false, .int .i64 0, .slice none 0 0, .slice none 0 0, .bool false, .int .i64 1, .slice (some ⟨WE.heap.size + 1 + 1, 0, none⟩) 1 1, .slice (some ⟨WE.heap.size + 1 + 1 + 1, 0, none⟩) 2 2, .bool true, .int .i64 0, .slice none 0 0, .slice none 0 0] 55 (0, 0)) := by rw [hX5]; exact alk _ _ hzX4
            have hU5 : ∀ {q : Nat} {x : Obj}, X4.heap[q]? = some x → X5.heap[q]? = some x := fun h => by rw [hX5]; exact old_ h
            obtain ⟨X6, hX6⟩ : ∃ XX, XX = X5.alloc (.cells #[.slice (some ⟨WE.heap.size + 1 + 1 + 1 + 1, 0, none⟩) 4 4] 34) := ⟨_, rfl⟩
            have hzX6 : X6.heap.size = WE.heap.size + 1 + 1 + 1 + 1 + 1 + 1 := by rw [hX6]; simp [hzX5]
            have hBX6 : Below WE.heap.size WE X6 := by rw [hX6]; exact hBX5.alloc hBX5.size _
            have hN5 : X6.heap[WE.heap.size + 1 + 1 + 1 + 1 + 1]? = some (.cells #[.slice (some ⟨WE.heap.size + 1 + 1 + 1 + 1, 0, none⟩) 4 4] 34 (0, 0)) := by rw [hX6]; exact alk _ _ hzX5
            have hU6 : ∀ {q : Nat} {x : Obj}, X5.heap[q]? = some x → X6.heap[q]? = some x := fun h => by rw [hX6]; exact old_ h
            obtain ⟨X7, hX7⟩ : ∃ XX, XX = X6.alloc (.cells #[.bool true, .int .i64 0, .slice none 0 0, .slice none 0 0] 55) := ⟨_, rfl⟩
            have hzX7 : X7.heap.size = WE.heap.size + 1 + 1 + 1 + 1 + 1 + 1 + 1 := by rw [hX7]; simp [hzX6]
            have hBX7 : Below WE.heap.size WE X7 := by rw [hX7]; exact hBX6.alloc hBX6.size _
            have hN6 : X7.heap[WE.heap.size + 1 + 1 + 1 + 1 + 1 + 1]? = some (.cells #[.bool true, .int .i64 0, .slice none 0 0, .slice none 0 0] 55 (0, 0)) := by rw [hX7]; exact alk _ _ hzX6
            have hU7 : ∀ {q : Nat} {x : Obj}, X6.heap[q]? = some x → X7.heap[q]? = some x := fun h => by rw [hX7]; exact old_ h
            obtain ⟨X8, hX8⟩ : ∃ XX, XX = X7.alloc (.cells #[.slice (some ⟨WE.heap.size + 1 + 1 + 1 + 1 + 1 + 1, 0, none⟩) 1 1] 34) := ⟨_, rfl⟩
            have hzX8 : X8.heap.size = WE.heap.size + 1 + 1 + 1 + 1 + 1 + 1 + 1 + 1 := by rw [hX8]; simp [hzX7]
            have hBX8 : Below WE.heap.size WE X8 := by rw [hX8]; exact hBX7.alloc hBX7.size _
            have hN7 : X8.heap[WE.heap.size + 1 + 1 + 1 + 1 + 1 + 1 + 1]? = some (.cells #[.slice (some ⟨WE.heap.size + 1 + 1 + 1 + 1 + 1 + 1, 0, none⟩) 1 1] 34 (0, 0)) := by rw [hX8]; exact alk _ _ hzX7
            have hU8 : ∀ {q : Nat} {x : Obj}, X7.heap[q]? = some x → X8.heap[q]? = some x := fun h => by rw [hX8]; exact old_ h
            obtain ⟨X9, hX9⟩ : ∃ XX, XX = X8.alloc (.cells #[.bool false, .int .i64 0, .slice none 0 0, .slice none 0 0] 55) := ⟨_, rfl⟩
            have hzX9 : X9.heap.size = WE.heap.size + 1 + 1 + 1 + 1 + 1 + 1 + 1 + 1 + 1 := by rw [hX9]; simp [hzX8]
            have hBX9 : Below WE.heap.size WE X9 := by rw [hX9]; exact hBX8.alloc hBX8.size _
            have hN8 : X9.heap[WE.heap.size + 1 + 1 + 1 + 1 + 1 + 1 + 1 + 1]? = some (.cells #[.bool false, .int .i64 0, .slice none 0 0, .slice none 0 0] 55 (0, 0)) := by rw [hX9]; exact alk _ _ hzX8
            have hU9 : ∀ {q : Nat} {x : Obj}, X8.heap[q]? = some x → X9.heap[q]? = some x := fun h => by rw [hX9]; exact old_ h
            obtain ⟨X10, hX10⟩ : ∃ XX, XX = X9.alloc (.cells #[.slice (some ⟨WE.heap.size + 1 + 1 + 1 + 1 + 1 + 1 + 1 + 1, 0, none⟩) 1 1] 34) := ⟨_, rfl⟩
            have hzX10 : X10.heap.size = WE.heap.size + 1 + 1 + 1 + 1 + 1 + 1 + 1 + 1 + 1 + 1 := by rw [hX10]; simp [hzX9]
            have hBX10 : Below WE.heap.size WE X10 := by rw [hX10]; exact hBX9.alloc hBX9.size _
            have hN9 : X10.heap[WE.heap.size + 1 + 1 + 1 + 1 + 1 + 1 + 1 + 1 + 1]? = some (.cells #[.slice (some ⟨WE.heap.size + 1 + 1 + 1 + 1 + 1 + 1 + 1 + 1, 0, none⟩) 1 1] 34 (0, 0)) := by rw [hX10]; exact alk _ _ hzX9
            have hU10 : ∀ {q : Nat} {x : Obj}, X9.heap[q]? = some x → X10.heap[q]? = some x := fun h => by rw [hX10]; exact old_ h
            have HW0 := Lib.hid (want_at (hU10 (hU9 (hU8 (hU7 (hU6 (hU5 (hU4 (hU3 (hU2 hN0))))))))) (hU10 (hU9 (hU8 (hU7 (hU6 (hU5 (hU4 (hU3 hN1)))))))) (hU10 (hU9 (hU8 (hU7 (hU6 (hU5 (hU4 hN2))))))) (hU10 (hU9 (hU8 (hU7 (hU6 (hU5 hN3)))))) (hU10 (hU9 (hU8 (hU7 (hU6 hN4))))))
            have HW1 := Lib.hid ((hU10 (hU9 (hU8 (hU7 hN5)))))
            have HY0 := Lib.hid (leaf_at (hU10 (hU9 (hU8 hN6))))
            have HY1 := Lib.hid ((hU10 (hU9 hN7)))
            have HN0 := Lib.hid (leaf_at (hU10 hN8))
            have HN1 := Lib.hid (hN9)
            have HBX := Lib.hid hBX10
            go_upto_region 12 with fail
            have hWX : ((((((((((WE.alloc (.cells #[.int .i64 18] 3)).alloc (.cells #[.int .i64 1, .int .i64 2] 3)).alloc (.cells #[.int .i64 1] 3)).alloc (.cells #[.int .i64 1, .int .i64 3] 3)).alloc (.cells #[.bool false, .int .i64 0, .slice (some ⟨WE.heap.size, 0, none⟩) 1 1, .slice (some ⟨WE.heap.size + 1, 0, none⟩) 2 2, .bool false, .int .i64 0, .slice none 0 0, .slice none 0 0, .bool false, .int .i64 1, .slice (some ⟨WE.heap.size + 1 + 1, 0, none⟩) 1 1, .slice (some ⟨WE.heap.size + 1 + 1 + 1, 0, none⟩) 2 2, .bool true, .int .i64 0, .slice none 0 0, .slice none 0 0] 55)).alloc (.cells #[.slice (some ⟨WE.heap.size + 1 + 1 + 1 + 1, 0, none⟩) 4 4] 34)).alloc (.cells #[.bool true, .int .i64 0, .slice none 0 0, .slice none 0 0] 55)).alloc (.cells #[.slice (some ⟨WE.heap.size + 1 + 1 + 1 + 1 + 1 + 1, 0, none⟩) 1 1] 34)).alloc (.cells #[.bool false, .int .i64 0, .slice none 0 0, .slice none 0 0] 55)).alloc (.cells #[.slice (some ⟨WE.heap.size + 1 + 1 + 1 + 1 + 1 + 1 + 1 + 1, 0, none⟩) 1 1] 34)) = X10 := by rw [hX10, hX9, hX8, hX7, hX6, hX5, hX4, hX3, hX2, hX1]
            rw [hWX]
            clear hWX hX1 hN0 hU1 hX2 hN1 hU2 hX3 hN2 hU3 hX4 hN3 hU4 hX5 hN4 hU5 hX6 hN5 hU6 hX7 hN6 hU7 hX8 hN7 hU8 hX9 hN8 hU9 hX10 hN9 hU10 hzX0 hBX0 hzX1 hBX1 hzX2 hBX2 hzX3 hBX3 hzX4 hBX4 hzX5 hBX5 hzX6 hBX6 hzX7 hBX7 hzX8 hBX8 hzX9 hBX9 hzX10 hBX10
            have HDb' := Lib.hid (below_ HBX.out HDb.out)
            have HDf' := Lib.hid (fcs_keep HDf.out HBX.out)
            have HMb' := Lib.hid (below_ HBX.out HMb.out)
            have HAb' := Lib.hid (below_ HBX.out HAb.out)
            have HAf' := Lib.hid (fm_keep HAf.out HBX.out)
            have HGA' := Lib.hid (below_ HBX.out HGA.out)
            have HGAf' := Lib.hid (nds_keep HGAf.out HBX.out)
            have HGB' := Lib.hid (below_ HBX.out HGB.out)
            have HGBf' := Lib.hid (nds_keep HGBf.out HBX.out)
            have HGC' := Lib.hid (below_ HBX.out HGC.out)
            have HGCf' := Lib.hid (nds_keep HGCf.out HBX.out)
            have HGD' := Lib.hid (below_ HBX.out HGD.out)
            have HGDf' := Lib.hid (nds_keep HGDf.out HBX.out)
            have HGE' := Lib.hid (below_ HBX.out HGE.out)
            have HGEf' := Lib.hid (nds_keep HGEf.out HBX.out)
            clear HDb HDf HMb HAb HAf HGA HGAf HGB HGBf HGC HGCf HGD HGDf HGE HGEf
            have HDb := HDb'
            clear HDb'
            have HDf := HDf'
            clear HDf'
            have HMb := HMb'
            clear HMb'
            have HAb := HAb'
            clear HAb'
            have HAf := HAf'
            clear HAf'
            have HGA := HGA'
            clear HGA'
            have HGAf := HGAf'
            clear HGAf'
            have HGB := HGB'
            clear HGB'
            have HGBf := HGBf'
            clear HGBf'
            have HGC := HGC'
            clear HGC'
            have HGCf := HGCf'
            clear HGCf'
            have HGD := HGD'
            clear HGD'
            have HGDf := HGDf'
            clear HGDf'
            have HGE := HGE'
            clear HGE'
            have HGEf := HGEf'
            clear HGEf'
            have HBW' := Lib.hid (HBW.out.trans ((HBX.out).mono HBW.out.size))
            clear HBW
            have HBW := HBW'
            clear HBW'
            clear HBX
            generalize WE.heap.size + 1 + 1 + 1 + 1 + 1 + 1 + 1 + 1 + 1 = bN at *
            generalize WE.heap.size + 1 + 1 + 1 + 1 + 1 + 1 + 1 = bY at *
            generalize WE.heap.size + 1 + 1 + 1 + 1 + 1 = bW at *
            have cHGA := (one_ HGA.out).1
            have lHGA := blt_ HGA.out
            have cHGB := (one_ HGB.out).1
            have lHGB := blt_ HGB.out
            have cHGC := (one_ HGC.out).1
            have lHGC := blt_ HGC.out
            have cHGD := (one_ HGD.out).1
            have lHGD := blt_ HGD.out
            have cHW1 := (one_ HW1.out).1
            have lHW1 := blt_ HW1.out
            have cHY1 := (one_ HY1.out).1
            have lHY1 := blt_ HY1.out
            have cHN1 := (one_ HN1.out).1
            have lHN1 := blt_ HN1.out
            have cHDb := (one_ HDb.out).1
            have lHDb := blt_ HDb.out
            go_wp2_with fail
            refine (least_any AnyB AnyB ndsA _ domH _ _ HGAf.out HDf.out (by decide) (by intro x hx; simp only [ndsA, List.mem_cons, List.not_mem_nil, or_false] at hx; rcases hx with rfl | rfl | rfl | rfl <;> simp) (HT.out _ HBW.out)).mono ?_
            rw [lA]
            rintro e wL ⟨vL, rfl, hoL, hbL⟩
            dsimp only at hoL ⊢
            clear cHGA lHGA cHGB lHGB cHGC lHGC cHGD lHGD cHW1 lHW1 cHY1 lHY1 cHN1 lHN1 cHDb lHDb
            have HDb' := Lib.hid (below_ hbL HDb.out)
            have HDf' := Lib.hid (fcs_keep HDf.out hbL)
            have HMb' := Lib.hid (below_ hbL HMb.out)
            have HAb' := Lib.hid (below_ hbL HAb.out)
            have HAf' := Lib.hid (fm_keep HAf.out hbL)
            have HGA' := Lib.hid (below_ hbL HGA.out)
            have HGAf' := Lib.hid (nds_keep HGAf.out hbL)
            have HGB' := Lib.hid (below_ hbL HGB.out)
            have HGBf' := Lib.hid (nds_keep HGBf.out hbL)
            have HGC' := Lib.hid (below_ hbL HGC.out)
            have HGCf' := Lib.hid (nds_keep HGCf.out hbL)
            have HGD' := Lib.hid (below_ hbL HGD.out)
            have HGDf' := Lib.hid (nds_keep HGDf.out hbL)
            have HGE' := Lib.hid (below_ hbL HGE.out)
            have HGEf' := Lib.hid (nds_keep HGEf.out hbL)
            have HW0' := Lib.hid (nds_keep HW0.out hbL)
            have HW1' := Lib.hid (below_ hbL HW1.out)
            have HY0' := Lib.hid (nds_keep HY0.out hbL)
            have HY1' := Lib.hid (below_ hbL HY1.out)
            have HN0' := Lib.hid (nds_keep HN0.out hbL)
            have HN1' := Lib.hid (below_ hbL HN1.out)
            clear HDb HDf HMb HAb HAf HGA HGAf HGB HGBf HGC HGCf HGD HGDf HGE HGEf HW0 HW1 HY0 HY1 HN0 HN1
            have HDb := HDb'
            clear HDb'
            have HDf := HDf'
            clear HDf'
            have HMb := HMb'
            clear HMb'
            have HAb := HAb'
            clear HAb'
            have HAf := HAf'
            clear HAf'
            have HGA := HGA'
            clear HGA'
            have HGAf := HGAf'
            clear HGAf'
            have HGB := HGB'
            clear HGB'
            have HGBf := HGBf'
            clear HGBf'
            have HGC := HGC'
            clear HGC'
            have HGCf := HGCf'
            clear HGCf'
            have HGD := HGD'
            clear HGD'
            have HGDf := HGDf'
            clear HGDf'
            have HGE := HGE'
            clear HGE'
            have HGEf := HGEf'
            clear HGEf'
            have HW0 := HW0'
            clear HW0'
            have HW1 := HW1'
            clear HW1'
            have HY0 := HY0'
            clear HY0'
            have HY1 := HY1'
            clear HY1'
            have HN0 := HN0'
            clear HN0'
            have HN1 := HN1'
            clear HN1'
            have HBW' := Lib.hid (HBW.out.trans ((hbL).mono HBW.out.size))
            clear HBW
            have HBW := HBW'
            clear HBW'
            have HLi := Lib.hid (show IntsAt AnyB wL vL [18, 1] from hoL.slice (fun _ _ _ _ => trivial) (by decide) (fun _ _ _ h => h))
            obtain ⟨AL, cL, rfl⟩ := ints_shape HLi.out
            clear hoL hbL
            have cHGA := (one_ HGA.out).1
            have lHGA := blt_ HGA.out
            have cHGB := (one_ HGB.out).1
            have lHGB := blt_ HGB.out
            have cHGC := (one_ HGC.out).1
            have lHGC := blt_ HGC.out
            have cHGD := (one_ HGD.out).1
            have lHGD := blt_ HGD.out
            have cHW1 := (one_ HW1.out).1
            have lHW1 := blt_ HW1.out
            have cHY1 := (one_ HY1.out).1
            have lHY1 := blt_ HY1.out
            have cHN1 := (one_ HN1.out).1
            have lHN1 := blt_ HN1.out
            have cHDb := (one_ HDb.out).1
            have lHDb := blt_ HDb.out
            go_wp2_with fail
            refine (refSame_any AnyB AnyB ndsA ndsA _ _ _ HGAf.out HW0.out).mono ?_
            rintro e wS1 ⟨rfl, hb1⟩
            rw [(show sameG ndsA ndsA = true from (sameG_iff _ _).2 rfl)]
            clear cHGA lHGA cHGB lHGB cHGC lHGC cHGD lHGD cHW1 lHW1 cHY1 lHY1 cHN1 lHN1 cHDb lHDb
            have HDb' := Lib.hid (below_ hb1 HDb.out)
            have HDf' := Lib.hid (fcs_keep HDf.out hb1)
            have HMb' := Lib.hid (below_ hb1 HMb.out)
            have HAb' := Lib.hid (below_ hb1 HAb.out)
            have HAf' := Lib.hid (fm_keep HAf.out hb1)
            have HGA' := Lib.hid (below_ hb1 HGA.out)
            have HGAf' := Lib.hid (nds_keep HGAf.out hb1)
            have HGB' := Lib.hid (below_ hb1 HGB.out)
            have HGBf' := Lib.hid (nds_keep HGBf.out hb1)
            have HGC' := Lib.hid (below_ hb1 HGC.out)
            have HGCf' := Lib.hid (nds_keep HGCf.out hb1)
            have HGD' := Lib.hid (below_ hb1 HGD.out)
            have HGDf' := Lib.hid (nds_keep HGDf.out hb1)
            have HGE' := Lib.hid (below_ hb1 HGE.out)
            have HGEf' := Lib.hid (nds_keep HGEf.out hb1)
            have HW0' := Lib.hid (nds_keep HW0.out hb1)
            have HW1' := Lib.hid (below_ hb1 HW1.out)
            have HY0' := Lib.hid (nds_keep HY0.out hb1)
            have HY1' := Lib.hid (below_ hb1 HY1.out)
            have HN0' := Lib.hid (nds_keep HN0.out hb1)
            have HN1' := Lib.hid (below_ hb1 HN1.out)
            have HLi' := Lib.hid (ints_keep HLi.out hb1)
            clear HDb HDf HMb HAb HAf HGA HGAf HGB HGBf HGC HGCf HGD HGDf HGE HGEf HW0 HW1 HY0 HY1 HN0 HN1 HLi
            have HDb := HDb'
            clear HDb'
            have HDf := HDf'
            clear HDf'
            have HMb := HMb'
            clear HMb'
            have HAb := HAb'
            clear HAb'
            have HAf := HAf'
            clear HAf'
            have HGA := HGA'
            clear HGA'
            have HGAf := HGAf'
            clear HGAf'
            have HGB := HGB'
            clear HGB'
            have HGBf := HGBf'
            clear HGBf'
            have HGC := HGC'
            clear HGC'
            have HGCf := HGCf'
            clear HGCf'
            have HGD := HGD'
            clear HGD'
            have HGDf := HGDf'
            clear HGDf'
            have HGE := HGE'
            clear HGE'
            have HGEf := HGEf'
            clear HGEf'
            have HW0 := HW0'
            clear HW0'
            have HW1 := HW1'
            clear HW1'
            have HY0 := HY0'
            clear HY0'
            have HY1 := HY1'
            clear HY1'
            have HN0 := HN0'
            clear HN0'
            have HN1 := HN1'
            clear HN1'
            have HLi := HLi'
            clear HLi'
            have HBW' := Lib.hid (HBW.out.trans ((hb1).mono HBW.out.size))
            clear HBW
            have HBW := HBW'
            clear HBW'
            clear hb1
            have cHGA := (one_ HGA.out).1
            have lHGA := blt_ HGA.out
            have cHGB := (one_ HGB.out).1
            have lHGB := blt_ HGB.out
            have cHGC := (one_ HGC.out).1
            have lHGC := blt_ HGC.out
            have cHGD := (one_ HGD.out).1
            have lHGD := blt_ HGD.out
            have cHW1 := (one_ HW1.out).1
            have lHW1 := blt_ HW1.out
            have cHY1 := (one_ HY1.out).1
            have lHY1 := blt_ HY1.out
            have cHN1 := (one_ HN1.out).1
            have lHN1 := blt_ HN1.out
            have cHDb := (one_ HDb.out).1
            have lHDb := blt_ HDb.out
            go_wp2_with fail
            refine (refSame_any AnyB AnyB [⟨true, 0, [], []⟩] [⟨true, 0, [], []⟩] _ _ _ HGBf.out HY0.out).mono ?_
            rintro e wS2 ⟨rfl, hb2⟩
            rw [(show sameG [⟨true, 0, [], []⟩] [⟨true, 0, [], []⟩] = true from (sameG_iff _ _).2 rfl)]
            clear cHGA lHGA cHGB lHGB cHGC lHGC cHGD lHGD cHW1 lHW1 cHY1 lHY1 cHN1 lHN1 cHDb lHDb
            have HDb' := Lib.hid (below_ hb2 HDb.out)
            have HDf' := Lib.hid (fcs_keep HDf.out hb2)
            have HMb' := Lib.hid (below_ hb2 HMb.out)
            have HAb' := Lib.hid (below_ hb2 HAb.out)
            have HAf' := Lib.hid (fm_keep HAf.out hb2)
            have HGA' := Lib.hid (below_ hb2 HGA.out)
            have HGAf' := Lib.hid (nds_keep HGAf.out hb2)
            have HGB' := Lib.hid (below_ hb2 HGB.out)
            have HGBf' := Lib.hid (nds_keep HGBf.out hb2)
            have HGC' := Lib.hid (below_ hb2 HGC.out)
            have HGCf' := Lib.hid (nds_keep HGCf.out hb2)
            have HGD' := Lib.hid (below_ hb2 HGD.out)
            have HGDf' := Lib.hid (nds_keep HGDf.out hb2)
            have HGE' := Lib.hid (below_ hb2 HGE.out)
            have HGEf' := Lib.hid (nds_keep HGEf.out hb2)
            have HW0' := Lib.hid (nds_keep HW0.out hb2)
            have HW1' := Lib.hid (below_ hb2 HW1.out)
            have HY0' := Lib.hid (nds_keep HY0.out hb2)
            have HY1' := Lib.hid (below_ hb2 HY1.out)
            have HN0' := Lib.hid (nds_keep HN0.out hb2)
            have HN1' := Lib.hid (below_ hb2 HN1.out)
            have HLi' := Lib.hid (ints_keep HLi.out hb2)
            clear HDb HDf HMb HAb HAf HGA HGAf HGB HGBf HGC HGCf HGD HGDf HGE HGEf HW0 HW1 HY0 HY1 HN0 HN1 HLi
            have HDb := HDb'
            clear HDb'
            have HDf := HDf'
            clear HDf'
            have HMb := HMb'
            clear HMb'
            have HAb := HAb'
            clear HAb'
            have HAf := HAf'
            clear HAf'
            have HGA := HGA'
            clear HGA'
            have HGAf := HGAf'
            clear HGAf'
            have HGB := HGB'
            clear HGB'
            have HGBf := HGBf'
            clear HGBf'
            have HGC := HGC'
            clear HGC'
            have HGCf := HGCf'
            clear HGCf'
            have HGD := HGD'
            clear HGD'
            have HGDf := HGDf'
            clear HGDf'
            have HGE := HGE'
            clear HGE'
            have HGEf := HGEf'
            clear HGEf'
            have HW0 := HW0'
            clear HW0'
            have HW1 := HW1'
            clear HW1'
            have HY0 := HY0'
            clear HY0'
            have HY1 := HY1'
            clear HY1'
            have HN0 := HN0'
            clear HN0'
            have HN1 := HN1'
            clear HN1'
            have HLi := HLi'
            clear HLi'
            have HBW' := Lib.hid (HBW.out.trans ((hb2).mono HBW.out.size))
            clear HBW
            have HBW := HBW'
            clear HBW'
            clear hb2
            have cHGA := (one_ HGA.out).1
            have lHGA := blt_ HGA.out
            have cHGB := (one_ HGB.out).1
            have lHGB := blt_ HGB.out
            have cHGC := (one_ HGC.out).1
            have lHGC := blt_ HGC.out
            have cHGD := (one_ HGD.out).1
            have lHGD := blt_ HGD.out
            have cHW1 := (one_ HW1.out).1
            have lHW1 := blt_ HW1.out
            have cHY1 := (one_ HY1.out).1
            have lHY1 := blt_ HY1.out
            have cHN1 := (one_ HN1.out).1
            have lHN1 := blt_ HN1.out
            have cHDb := (one_ HDb.out).1
            have lHDb := blt_ HDb.out
            go_wp2_with fail
            refine (refSame_any AnyB AnyB [⟨true, 0, [], []⟩] [⟨true, 0, [], []⟩] _ _ _ HGCf.out HY0.out).mono ?_
            rintro e wS3 ⟨rfl, hb3⟩
            rw [(show sameG [⟨true, 0, [], []⟩] [⟨true, 0, [], []⟩] = true from (sameG_iff _ _).2 rfl)]
            clear cHGA lHGA cHGB lHGB cHGC lHGC cHGD lHGD cHW1 lHW1 cHY1 lHY1 cHN1 lHN1 cHDb lHDb
            have HDb' := Lib.hid (below_ hb3 HDb.out)
            have HDf' := Lib.hid (fcs_keep HDf.out hb3)
            have HMb' := Lib.hid (below_ hb3 HMb.out)
            have HAb' := Lib.hid (below_ hb3 HAb.out)
            have HAf' := Lib.hid (fm_keep HAf.out hb3)
            have HGA' := Lib.hid (below_ hb3 HGA.out)
            have HGAf' := Lib.hid (nds_keep HGAf.out hb3)
            have HGB' := Lib.hid (below_ hb3 HGB.out)
            have HGBf' := Lib.hid (nds_keep HGBf.out hb3)
            have HGC' := Lib.hid (below_ hb3 HGC.out)
            have HGCf' := Lib.hid (nds_keep HGCf.out hb3)
            have HGD' := Lib.hid (below_ hb3 HGD.out)
            have HGDf' := Lib.hid (nds_keep HGDf.out hb3)
            have HGE' := Lib.hid (below_ hb3 HGE.out)
            have HGEf' := Lib.hid (nds_keep HGEf.out hb3)
            have HW0' := Lib.hid (nds_keep HW0.out hb3)
            have HW1' := Lib.hid (below_ hb3 HW1.out)
            have HY0' := Lib.hid (nds_keep HY0.out hb3)
            have HY1' := Lib.hid (below_ hb3 HY1.out)
            have HN0' := Lib.hid (nds_keep HN0.out hb3)
            have HN1' := Lib.hid (below_ hb3 HN1.out)
            have HLi' := Lib.hid (ints_keep HLi.out hb3)
            clear HDb HDf HMb HAb HAf HGA HGAf HGB HGBf HGC HGCf HGD HGDf HGE HGEf HW0 HW1 HY0 HY1 HN0 HN1 HLi
            have HDb := HDb'
            clear HDb'
            have HDf := HDf'
            clear HDf'
            have HMb := HMb'
            clear HMb'
            have HAb := HAb'
            clear HAb'
            have HAf := HAf'
            clear HAf'
            have HGA := HGA'
            clear HGA'
            have HGAf := HGAf'
            clear HGAf'
            have HGB := HGB'
            clear HGB'
            have HGBf := HGBf'
            clear HGBf'
            have HGC := HGC'
            clear HGC'
            have HGCf := HGCf'
            clear HGCf'
            have HGD := HGD'
            clear HGD'
            have HGDf := HGDf'
            clear HGDf'
            have HGE := HGE'
            clear HGE'
            have HGEf := HGEf'
            clear HGEf'
            have HW0 := HW0'
            clear HW0'
            have HW1 := HW1'
            clear HW1'
            have HY0 := HY0'
            clear HY0'
            have HY1 := HY1'
            clear HY1'
            have HN0 := HN0'
            clear HN0'
            have HN1 := HN1'
            clear HN1'
            have HLi := HLi'
            clear HLi'
            have HBW' := Lib.hid (HBW.out.trans ((hb3).mono HBW.out.size))
            clear HBW
            have HBW := HBW'
            clear HBW'
            clear hb3
            have cHGA := (one_ HGA.out).1
            have lHGA := blt_ HGA.out
            have cHGB := (one_ HGB.out).1
            have lHGB := blt_ HGB.out
            have cHGC := (one_ HGC.out).1
            have lHGC := blt_ HGC.out
            have cHGD := (one_ HGD.out).1
            have lHGD := blt_ HGD.out
            have cHW1 := (one_ HW1.out).1
            have lHW1 := blt_ HW1.out
            have cHY1 := (one_ HY1.out).1
            have lHY1 := blt_ HY1.out
            have cHN1 := (one_ HN1.out).1
            have lHN1 := blt_ HN1.out
            have cHDb := (one_ HDb.out).1
            have lHDb := blt_ HDb.out
            go_wp2_with fail
            refine (refSame_any AnyB AnyB [⟨false, 0, [], []⟩] [⟨false, 0, [], []⟩] _ _ _ HGDf.out HN0.out).mono ?_
            rintro e wS4 ⟨rfl, hb4⟩
            rw [(show sameG [⟨false, 0, [], []⟩] [⟨false, 0, [], []⟩] = true from (sameG_iff _ _).2 rfl)]
            clear cHGA lHGA cHGB lHGB cHGC lHGC cHGD lHGD cHW1 lHW1 cHY1 lHY1 cHN1 lHN1 cHDb lHDb
            have HDb' := Lib.hid (below_ hb4 HDb.out)
            have HDf' := Lib.hid (fcs_keep HDf.out hb4)
            have HMb' := Lib.hid (below_ hb4 HMb.out)
            have HAb' := Lib.hid (below_ hb4 HAb.out)
            have HAf' := Lib.hid (fm_keep HAf.out hb4)
            have HGA' := Lib.hid (below_ hb4 HGA.out)
            have HGAf' := Lib.hid (nds_keep HGAf.out hb4)
            have HGB' := Lib.hid (below_ hb4 HGB.out)
            have HGBf' := Lib.hid (nds_keep HGBf.out hb4)
            have HGC' := Lib.hid (below_ hb4 HGC.out)
            have HGCf' := Lib.hid (nds_keep HGCf.out hb4)
            have HGD' := Lib.hid (below_ hb4 HGD.out)
            have HGDf' := Lib.hid (nds_keep HGDf.out hb4)
            have HGE' := Lib.hid (below_ hb4 HGE.out)
            have HGEf' := Lib.hid (nds_keep HGEf.out hb4)
            have HW0' := Lib.hid (nds_keep HW0.out hb4)
            have HW1' := Lib.hid (below_ hb4 HW1.out)
            have HY0' := Lib.hid (nds_keep HY0.out hb4)
            have HY1' := Lib.hid (below_ hb4 HY1.out)
            have HN0' := Lib.hid (nds_keep HN0.out hb4)
            have HN1' := Lib.hid (below_ hb4 HN1.out)
            have HLi' := Lib.hid (ints_keep HLi.out hb4)
            clear HDb HDf HMb HAb HAf HGA HGAf HGB HGBf HGC HGCf HGD HGDf HGE HGEf HW0 HW1 HY0 HY1 HN0 HN1 HLi
            have HDb := HDb'
            clear HDb'
            have HDf := HDf'
            clear HDf'
            have HMb := HMb'
            clear HMb'
            have HAb := HAb'
            clear HAb'
            have HAf := HAf'
            clear HAf'
            have HGA := HGA'
            clear HGA'
            have HGAf := HGAf'
            clear HGAf'
            have HGB := HGB'
            clear HGB'
            have HGBf := HGBf'
            clear HGBf'
            have HGC := HGC'
            clear HGC'
            have HGCf := HGCf'
            clear HGCf'
            have HGD := HGD'
            clear HGD'
            have HGDf := HGDf'
            clear HGDf'
            have HGE := HGE'
            clear HGE'
            have HGEf := HGEf'
            clear HGEf'
            have HW0 := HW0'
            clear HW0'
            have HW1 := HW1'
            clear HW1'
            have HY0 := HY0'
            clear HY0'
            have HY1 := HY1'
            clear HY1'
            have HN0 := HN0'
            clear HN0'
            have HN1 := HN1'
            clear HN1'
            have HLi := HLi'
            clear HLi'
            have HBW' := Lib.hid (HBW.out.trans ((hb4).mono HBW.out.size))
            clear HBW
            have HBW := HBW'
            clear HBW'
            clear hb4
            have cHGA := (one_ HGA.out).1
            have lHGA := blt_ HGA.out
            have cHGB := (one_ HGB.out).1
            have lHGB := blt_ HGB.out
            have cHGC := (one_ HGC.out).1
            have lHGC := blt_ HGC.out
            have cHGD := (one_ HGD.out).1
            have lHGD := blt_ HGD.out
            have cHW1 := (one_ HW1.out).1
            have lHW1 := blt_ HW1.out
            have cHY1 := (one_ HY1.out).1
            have lHY1 := blt_ HY1.out
            have cHN1 := (one_ HN1.out).1
            have lHN1 := blt_ HN1.out
            have cHDb := (one_ HDb.out).1
            have lHDb := blt_ HDb.out
            go_wp2_with fail
            have HP5 := Lib.hid (box_below wS4 (.cells #[.int .i64 18, .int .i64 1] 3))
            refine (ints_any AnyB AnyB [18, 1] [18, 1] _ _ _ (ints_keep HLi.out HP5.out) (ints_block (xs := [18, 1]) (c := 2) (new_ wS4 (.cells #[.int .i64 18, .int .i64 1] 3)) rfl (by intro y hy; simp at hy; rcases hy with rfl | rfl <;> (unfold I64; omega)) (by decide) (by decide))).mono ?_
            rintro e wS5 ⟨rfl, hb5⟩
            rw [(show (([18, 1] : List Int) == [18, 1]) = true from by decide)]
            clear cHGA lHGA cHGB lHGB cHGC lHGC cHGD lHGD cHW1 lHW1 cHY1 lHY1 cHN1 lHN1 cHDb lHDb
            have hbb5 := bthen HP5.out hb5
            have HDb' := Lib.hid (below_ hbb5 HDb.out)
            have HDf' := Lib.hid (fcs_keep HDf.out hbb5)
            have HMb' := Lib.hid (below_ hbb5 HMb.out)
            have HAb' := Lib.hid (below_ hbb5 HAb.out)
            have HAf' := Lib.hid (fm_keep HAf.out hbb5)
            have HGA' := Lib.hid (below_ hbb5 HGA.out)
            have HGAf' := Lib.hid (nds_keep HGAf.out hbb5)
            have HGB' := Lib.hid (below_ hbb5 HGB.out)
            have HGBf' := Lib.hid (nds_keep HGBf.out hbb5)
            have HGC' := Lib.hid (below_ hbb5 HGC.out)
            have HGCf' := Lib.hid (nds_keep HGCf.out hbb5)
            have HGD' := Lib.hid (below_ hbb5 HGD.out)
            have HGDf' := Lib.hid (nds_keep HGDf.out hbb5)
            have HGE' := Lib.hid (below_ hbb5 HGE.out)
            have HGEf' := Lib.hid (nds_keep HGEf.out hbb5)
            have HW0' := Lib.hid (nds_keep HW0.out hbb5)
            have HW1' := Lib.hid (below_ hbb5 HW1.out)
            have HY0' := Lib.hid (nds_keep HY0.out hbb5)
            have HY1' := Lib.hid (below_ hbb5 HY1.out)
            have HN0' := Lib.hid (nds_keep HN0.out hbb5)
            have HN1' := Lib.hid (below_ hbb5 HN1.out)
            have HLi' := Lib.hid (ints_keep HLi.out hbb5)
            clear HDb HDf HMb HAb HAf HGA HGAf HGB HGBf HGC HGCf HGD HGDf HGE HGEf HW0 HW1 HY0 HY1 HN0 HN1 HLi
            have HDb := HDb'
            clear HDb'
            have HDf := HDf'
            clear HDf'
            have HMb := HMb'
            clear HMb'
            have HAb := HAb'
            clear HAb'
            have HAf := HAf'
            clear HAf'
            have HGA := HGA'
            clear HGA'
            have HGAf := HGAf'
            clear HGAf'
            have HGB := HGB'
            clear HGB'
            have HGBf := HGBf'
            clear HGBf'
            have HGC := HGC'
            clear HGC'
            have HGCf := HGCf'
            clear HGCf'
            have HGD := HGD'
            clear HGD'
            have HGDf := HGDf'
            clear HGDf'
            have HGE := HGE'
            clear HGE'
            have HGEf := HGEf'
            clear HGEf'
            have HW0 := HW0'
            clear HW0'
            have HW1 := HW1'
            clear HW1'
            have HY0 := HY0'
            clear HY0'
            have HY1 := HY1'
            clear HY1'
            have HN0 := HN0'
            clear HN0'
            have HN1 := HN1'
            clear HN1'
            have HLi := HLi'
            clear HLi'
            have HBW' := Lib.hid (HBW.out.trans ((hbb5).mono HBW.out.size))
            clear HBW
            have HBW := HBW'
            clear HBW'
            clear hb5 hbb5
            have cHGA := (one_ HGA.out).1
            have lHGA := blt_ HGA.out
            have cHGB := (one_ HGB.out).1
            have lHGB := blt_ HGB.out
            have cHGC := (one_ HGC.out).1
            have lHGC := blt_ HGC.out
            have cHGD := (one_ HGD.out).1
            have lHGD := blt_ HGD.out
            have cHW1 := (one_ HW1.out).1
            have lHW1 := blt_ HW1.out
            have cHY1 := (one_ HY1.out).1
            have lHY1 := blt_ HY1.out
            have cHN1 := (one_ HN1.out).1
            have lHN1 := blt_ HN1.out
            have cHDb := (one_ HDb.out).1
            have lHDb := blt_ HDb.out
            go_wp2_with fail
            have HP6 := Lib.hid (box_below wS5 (.cells #[.int .i64 20, .int .i64 1] 3))
            refine (diagHolds_any AnyB AnyB ndsA [20, 1] _ _ _ (nds_keep HGAf.out HP6.out) (ints_block (xs := [20, 1]) (c := 2) (new_ wS5 (.cells #[.int .i64 20, .int .i64 1] 3)) rfl (by intro y hy; simp at hy; rcases hy with rfl | rfl <;> (unfold I64; omega)) (by decide) (by decide))).mono ?_
            rintro e wS6 ⟨rfl, hb6⟩
            rw [hA1]
            clear cHGA lHGA cHGB lHGB cHGC lHGC cHGD lHGD cHW1 lHW1 cHY1 lHY1 cHN1 lHN1 cHDb lHDb
            have hbb6 := bthen HP6.out hb6
            have HDb' := Lib.hid (below_ hbb6 HDb.out)
            have HDf' := Lib.hid (fcs_keep HDf.out hbb6)
            have HMb' := Lib.hid (below_ hbb6 HMb.out)
            have HAb' := Lib.hid (below_ hbb6 HAb.out)
            have HAf' := Lib.hid (fm_keep HAf.out hbb6)
            have HGA' := Lib.hid (below_ hbb6 HGA.out)
            have HGAf' := Lib.hid (nds_keep HGAf.out hbb6)
            have HGB' := Lib.hid (below_ hbb6 HGB.out)
            have HGBf' := Lib.hid (nds_keep HGBf.out hbb6)
            have HGC' := Lib.hid (below_ hbb6 HGC.out)
            have HGCf' := Lib.hid (nds_keep HGCf.out hbb6)
            have HGD' := Lib.hid (below_ hbb6 HGD.out)
            have HGDf' := Lib.hid (nds_keep HGDf.out hbb6)
            have HGE' := Lib.hid (below_ hbb6 HGE.out)
            have HGEf' := Lib.hid (nds_keep HGEf.out hbb6)
            have HW0' := Lib.hid (nds_keep HW0.out hbb6)
            have HW1' := Lib.hid (below_ hbb6 HW1.out)
            have HY0' := Lib.hid (nds_keep HY0.out hbb6)
            have HY1' := Lib.hid (below_ hbb6 HY1.out)
            have HN0' := Lib.hid (nds_keep HN0.out hbb6)
            have HN1' := Lib.hid (below_ hbb6 HN1.out)
            have HLi' := Lib.hid (ints_keep HLi.out hbb6)
            clear HDb HDf HMb HAb HAf HGA HGAf HGB HGBf HGC HGCf HGD HGDf HGE HGEf HW0 HW1 HY0 HY1 HN0 HN1 HLi
            have HDb := HDb'
            clear HDb'
            have HDf := HDf'
            clear HDf'
            have HMb := HMb'
            clear HMb'
            have HAb := HAb'
            clear HAb'
            have HAf := HAf'
            clear HAf'
            have HGA := HGA'
            clear HGA'
            have HGAf := HGAf'
            clear HGAf'
            have HGB := HGB'
            clear HGB'
            have HGBf := HGBf'
            clear HGBf'
            have HGC := HGC'
            clear HGC'
            have HGCf := HGCf'
            clear HGCf'
            have HGD := HGD'
            clear HGD'
            have HGDf := HGDf'
            clear HGDf'
            have HGE := HGE'
            clear HGE'
            have HGEf := HGEf'
            clear HGEf'
            have HW0 := HW0'
            clear HW0'
            have HW1 := HW1'
            clear HW1'
            have HY0 := HY0'
            clear HY0'
            have HY1 := HY1'
            clear HY1'
            have HN0 := HN0'
            clear HN0'
            have HN1 := HN1'
            clear HN1'
            have HLi := HLi'
            clear HLi'
            have HBW' := Lib.hid (HBW.out.trans ((hbb6).mono HBW.out.size))
            clear HBW
            have HBW := HBW'
            clear HBW'
            clear hb6 hbb6
            have cHGA := (one_ HGA.out).1
            have lHGA := blt_ HGA.out
            have cHGB := (one_ HGB.out).1
            have lHGB := blt_ HGB.out
            have cHGC := (one_ HGC.out).1
            have lHGC := blt_ HGC.out
            have cHGD := (one_ HGD.out).1
            have lHGD := blt_ HGD.out
            have cHW1 := (one_ HW1.out).1
            have lHW1 := blt_ HW1.out
            have cHY1 := (one_ HY1.out).1
            have lHY1 := blt_ HY1.out
            have cHN1 := (one_ HN1.out).1
            have lHN1 := blt_ HN1.out
            have cHDb := (one_ HDb.out).1
            have lHDb := blt_ HDb.out
            go_wp2_with fail
            have HP7 := Lib.hid (box_below wS6 (.cells #[.int .i64 20, .int .i64 0] 3))
            refine (diagHolds_any AnyB AnyB ndsA [20, 0] _ _ _ (nds_keep HGAf.out HP7.out) (ints_block (xs := [20, 0]) (c := 2) (new_ wS6 (.cells #[.int .i64 20, .int .i64 0] 3)) rfl (by intro y hy; simp at hy; rcases hy with rfl | rfl <;> (unfold I64; omega)) (by decide) (by decide))).mono ?_
            rintro e wS7 ⟨rfl, hb7⟩
            rw [hA0]
            clear cHGA lHGA cHGB lHGB cHGC lHGC cHGD lHGD cHW1 lHW1 cHY1 lHY1 cHN1 lHN1 cHDb lHDb
            have hbb7 := bthen HP7.out hb7
            have HDb' := Lib.hid (below_ hbb7 HDb.out)
            have HDf' := Lib.hid (fcs_keep HDf.out hbb7)
            have HMb' := Lib.hid (below_ hbb7 HMb.out)
            have HAb' := Lib.hid (below_ hbb7 HAb.out)
            have HAf' := Lib.hid (fm_keep HAf.out hbb7)
            have HGA' := Lib.hid (below_ hbb7 HGA.out)
            have HGAf' := Lib.hid (nds_keep HGAf.out hbb7)
            have HGB' := Lib.hid (below_ hbb7 HGB.out)
            have HGBf' := Lib.hid (nds_keep HGBf.out hbb7)
            have HGC' := Lib.hid (below_ hbb7 HGC.out)
            have HGCf' := Lib.hid (nds_keep HGCf.out hbb7)
            have HGD' := Lib.hid (below_ hbb7 HGD.out)
            have HGDf' := Lib.hid (nds_keep HGDf.out hbb7)
            have HGE' := Lib.hid (below_ hbb7 HGE.out)
            have HGEf' := Lib.hid (nds_keep HGEf.out hbb7)
            have HW0' := Lib.hid (nds_keep HW0.out hbb7)
            have HW1' := Lib.hid (below_ hbb7 HW1.out)
            have HY0' := Lib.hid (nds_keep HY0.out hbb7)
            have HY1' := Lib.hid (below_ hbb7 HY1.out)
            have HN0' := Lib.hid (nds_keep HN0.out hbb7)
            have HN1' := Lib.hid (below_ hbb7 HN1.out)
            have HLi' := Lib.hid (ints_keep HLi.out hbb7)
            clear HDb HDf HMb HAb HAf HGA HGAf HGB HGBf HGC HGCf HGD HGDf HGE HGEf HW0 HW1 HY0 HY1 HN0 HN1 HLi
            have HDb := HDb'
            clear HDb'
            have HDf := HDf'
            clear HDf'
            have HMb := HMb'
            clear HMb'
            have HAb := HAb'
            clear HAb'
            have HAf := HAf'
            clear HAf'
            have HGA := HGA'
            clear HGA'
            have HGAf := HGAf'
            clear HGAf'
            have HGB := HGB'
            clear HGB'
            have HGBf := HGBf'
            clear HGBf'
            have HGC := HGC'
            clear HGC'
            have HGCf := HGCf'
            clear HGCf'
            have HGD := HGD'
            clear HGD'
            have HGDf := HGDf'
            clear HGDf'
            have HGE := HGE'
            clear HGE'
            have HGEf := HGEf'
            clear HGEf'
            have HW0 := HW0'
            clear HW0'
            have HW1 := HW1'
            clear HW1'
            have HY0 := HY0'
            clear HY0'
            have HY1 := HY1'
            clear HY1'
            have HN0 := HN0'
            clear HN0'
            have HN1 := HN1'
            clear HN1'
            have HLi := HLi'
            clear HLi'
            have HBW' := Lib.hid (HBW.out.trans ((hbb7).mono HBW.out.size))
            clear HBW
            have HBW := HBW'
            clear HBW'
            clear hb7 hbb7
            have cHGA := (one_ HGA.out).1
            have lHGA := blt_ HGA.out
            have cHGB := (one_ HGB.out).1
            have lHGB := blt_ HGB.out
            have cHGC := (one_ HGC.out).1
            have lHGC := blt_ HGC.out
            have cHGD := (one_ HGD.out).1
            have lHGD := blt_ HGD.out
            have cHW1 := (one_ HW1.out).1
            have lHW1 := blt_ HW1.out
            have cHY1 := (one_ HY1.out).1
            have lHY1 := blt_ HY1.out
            have cHN1 := (one_ HN1.out).1
            have lHN1 := blt_ HN1.out
            have cHDb := (one_ HDb.out).1
            have lHDb := blt_ HDb.out
            go_wp2_with fail
            refine (valid_any AnyB AnyB ndsA _ domH _ _ HGAf.out HDf.out (by decide) (by intro x hx; simp only [ndsA, List.mem_cons, List.not_mem_nil, or_false] at hx; rcases hx with rfl | rfl | rfl | rfl <;> simp) (HT.out _ HBW.out)).mono ?_
            rintro e wS8 ⟨rfl, hb8⟩
            rw [vA]
            clear cHGA lHGA cHGB lHGB cHGC lHGC cHGD lHGD cHW1 lHW1 cHY1 lHY1 cHN1 lHN1 cHDb lHDb
            have HDb' := Lib.hid (below_ hb8 HDb.out)
            have HDf' := Lib.hid (fcs_keep HDf.out hb8)
            have HMb' := Lib.hid (below_ hb8 HMb.out)
            have HAb' := Lib.hid (below_ hb8 HAb.out)
            have HAf' := Lib.hid (fm_keep HAf.out hb8)
            have HGA' := Lib.hid (below_ hb8 HGA.out)
            have HGAf' := Lib.hid (nds_keep HGAf.out hb8)
            have HGB' := Lib.hid (below_ hb8 HGB.out)
            have HGBf' := Lib.hid (nds_keep HGBf.out hb8)
            have HGC' := Lib.hid (below_ hb8 HGC.out)
            have HGCf' := Lib.hid (nds_keep HGCf.out hb8)
            have HGD' := Lib.hid (below_ hb8 HGD.out)
            have HGDf' := Lib.hid (nds_keep HGDf.out hb8)
            have HGE' := Lib.hid (below_ hb8 HGE.out)
            have HGEf' := Lib.hid (nds_keep HGEf.out hb8)
            have HW0' := Lib.hid (nds_keep HW0.out hb8)
            have HW1' := Lib.hid (below_ hb8 HW1.out)
            have HY0' := Lib.hid (nds_keep HY0.out hb8)
            have HY1' := Lib.hid (below_ hb8 HY1.out)
            have HN0' := Lib.hid (nds_keep HN0.out hb8)
            have HN1' := Lib.hid (below_ hb8 HN1.out)
            have HLi' := Lib.hid (ints_keep HLi.out hb8)
            clear HDb HDf HMb HAb HAf HGA HGAf HGB HGBf HGC HGCf HGD HGDf HGE HGEf HW0 HW1 HY0 HY1 HN0 HN1 HLi
            have HDb := HDb'
            clear HDb'
            have HDf := HDf'
            clear HDf'
            have HMb := HMb'
            clear HMb'
            have HAb := HAb'
            clear HAb'
            have HAf := HAf'
            clear HAf'
            have HGA := HGA'
            clear HGA'
            have HGAf := HGAf'
            clear HGAf'
            have HGB := HGB'
            clear HGB'
            have HGBf := HGBf'
            clear HGBf'
            have HGC := HGC'
            clear HGC'
            have HGCf := HGCf'
            clear HGCf'
            have HGD := HGD'
            clear HGD'
            have HGDf := HGDf'
            clear HGDf'
            have HGE := HGE'
            clear HGE'
            have HGEf := HGEf'
            clear HGEf'
            have HW0 := HW0'
            clear HW0'
            have HW1 := HW1'
            clear HW1'
            have HY0 := HY0'
            clear HY0'
            have HY1 := HY1'
            clear HY1'
            have HN0 := HN0'
            clear HN0'
            have HN1 := HN1'
            clear HN1'
            have HLi := HLi'
            clear HLi'
            have HBW' := Lib.hid (HBW.out.trans ((hb8).mono HBW.out.size))
            clear HBW
            have HBW := HBW'
            clear HBW'
            clear hb8
            have cHGA := (one_ HGA.out).1
            have lHGA := blt_ HGA.out
            have cHGB := (one_ HGB.out).1
            have lHGB := blt_ HGB.out
            have cHGC := (one_ HGC.out).1
            have lHGC := blt_ HGC.out
            have cHGD := (one_ HGD.out).1
            have lHGD := blt_ HGD.out
            have cHW1 := (one_ HW1.out).1
            have lHW1 := blt_ HW1.out
            have cHY1 := (one_ HY1.out).1
            have lHY1 := blt_ HY1.out
            have cHN1 := (one_ HN1.out).1
            have lHN1 := blt_ HN1.out
            have cHDb := (one_ HDb.out).1
            have lHDb := blt_ HDb.out
            go_wp2_with fail
            refine (valid_any AnyB AnyB [] (.slice none 0 0) domH _ _ (SliceAt.nil _ _ _ _) HDf.out (by decide) (fun x hx => by cases hx) (HT.out _ HBW.out)).mono ?_
            rintro e wS9 ⟨rfl, hb9⟩
            rw [v0]
            clear cHGA lHGA cHGB lHGB cHGC lHGC cHGD lHGD cHW1 lHW1 cHY1 lHY1 cHN1 lHN1 cHDb lHDb
            have HDb' := Lib.hid (below_ hb9 HDb.out)
            have HDf' := Lib.hid (fcs_keep HDf.out hb9)
            have HMb' := Lib.hid (below_ hb9 HMb.out)
            have HAb' := Lib.hid (below_ hb9 HAb.out)
            have HAf' := Lib.hid (fm_keep HAf.out hb9)
            have HGA' := Lib.hid (below_ hb9 HGA.out)
            have HGAf' := Lib.hid (nds_keep HGAf.out hb9)
            have HGB' := Lib.hid (below_ hb9 HGB.out)
            have HGBf' := Lib.hid (nds_keep HGBf.out hb9)
            have HGC' := Lib.hid (below_ hb9 HGC.out)
            have HGCf' := Lib.hid (nds_keep HGCf.out hb9)
            have HGD' := Lib.hid (below_ hb9 HGD.out)
            have HGDf' := Lib.hid (nds_keep HGDf.out hb9)
            have HGE' := Lib.hid (below_ hb9 HGE.out)
            have HGEf' := Lib.hid (nds_keep HGEf.out hb9)
            have HW0' := Lib.hid (nds_keep HW0.out hb9)
            have HW1' := Lib.hid (below_ hb9 HW1.out)
            have HY0' := Lib.hid (nds_keep HY0.out hb9)
            have HY1' := Lib.hid (below_ hb9 HY1.out)
            have HN0' := Lib.hid (nds_keep HN0.out hb9)
            have HN1' := Lib.hid (below_ hb9 HN1.out)
            have HLi' := Lib.hid (ints_keep HLi.out hb9)
            clear HDb HDf HMb HAb HAf HGA HGAf HGB HGBf HGC HGCf HGD HGDf HGE HGEf HW0 HW1 HY0 HY1 HN0 HN1 HLi
            have HDb := HDb'
            clear HDb'
            have HDf := HDf'
            clear HDf'
            have HMb := HMb'
            clear HMb'
            have HAb := HAb'
            clear HAb'
            have HAf := HAf'
            clear HAf'
            have HGA := HGA'
            clear HGA'
            have HGAf := HGAf'
            clear HGAf'
            have HGB := HGB'
            clear HGB'
            have HGBf := HGBf'
            clear HGBf'
            have HGC := HGC'
            clear HGC'
            have HGCf := HGCf'
            clear HGCf'
            have HGD := HGD'
            clear HGD'
            have HGDf := HGDf'
            clear HGDf'
            have HGE := HGE'
            clear HGE'
            have HGEf := HGEf'
            clear HGEf'
            have HW0 := HW0'
            clear HW0'
            have HW1 := HW1'
            clear HW1'
            have HY0 := HY0'
            clear HY0'
            have HY1 := HY1'
            clear HY1'
            have HN0 := HN0'
            clear HN0'
            have HN1 := HN1'
            clear HN1'
            have HLi := HLi'
            clear HLi'
            have HBW' := Lib.hid (HBW.out.trans ((hb9).mono HBW.out.size))
            clear HBW
            have HBW := HBW'
            clear HBW'
            clear hb9
            go_wp2_with fail
            go_ret
            exact ⟨rfl, HBW.out⟩
end Go.Proofs.YtfajbcjcigajfaaGreatDoor
