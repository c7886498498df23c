/- Part of the proof of a law of customhouselaw26: the texts I3. -/
import Derived.Test.YtfajbcjcigajfaaGreatDoorMG4G5
import Derived.Test.YtfajbcjcigajfaaGreatDoorMI2
import Derived.Test.YtfajbcjcigajfaaGreatDoorMP4
/- The walk of inner. -/
namespace Go.Proofs.YtfajbcjcigajfaaGreatDoor
open Go.RowKit Go.Maps

def innerStep (p : List Int × List Int) (q : Int × Int) : List Int × List Int := if p.2.getLastD 0 = q.2 then p else (p.1 ++ [q.1], p.2 ++ [q.2])
/-- The cuts and kids of a node, equal neighbours joined. -/
def innerL (starts kids : List Int) : List Int × List Int := (List.zip starts kids).foldl innerStep ([], [kids.headD 0])
/-- The loop's state behind j kids. -/
structure InP (starts kids : List Int) (j : Nat) (cs ks : List Int) : Prop where
  fold : (List.zip (starts.take j) (kids.take j)).foldl innerStep ([], [kids.headD 0]) = (cs, ks)
  len : cs.length + 1 = ks.length
  le : ks.length ≤ j + 1
theorem InP.zero (starts kids : List Int) : InP starts kids 0 [] [kids.headD 0] := ⟨by simp, rfl, Nat.le_refl _⟩
theorem zip_snoc {a b : List Int} {j : Nat} {x y : Int} (hx : a[j]? = some x) (hy : b[j]? = some y) : List.zip (a.take (j + 1)) (b.take (j + 1)) = List.zip (a.take j) (b.take j) ++ [(x, y)] := by
  have h1 := (List.getElem?_eq_some_iff.1 hx).1
  have h2 := (List.getElem?_eq_some_iff.1 hy).1
  rw [take_snoc hx, take_snoc hy, List.zip_append (by simp; omega)]
  rfl
theorem InP.same {starts kids : List Int} {j : Nat} {cs ks : List Int} {x y : Int} (h : InP starts kids j cs ks) (hx : starts[j]? = some x) (hy : kids[j]? = some y) (hl : ks.getLastD 0 = y) : InP starts kids (j + 1) cs ks :=
  ⟨by rw [zip_snoc hx hy, List.foldl_append, h.fold]; simp only [List.foldl_cons, List.foldl_nil, innerStep, hl, if_true], h.len, by have := h.le; omega⟩
theorem InP.more {starts kids : List Int} {j : Nat} {cs ks : List Int} {x y : Int} (h : InP starts kids j cs ks) (hx : starts[j]? = some x) (hy : kids[j]? = some y) (hl : ks.getLastD 0 ≠ y) : InP starts kids (j + 1) (cs ++ [x]) (ks ++ [y]) :=
  ⟨by rw [zip_snoc hx hy, List.foldl_append, h.fold]; simp only [List.foldl_cons, List.foldl_nil, innerStep, if_neg hl], by have := h.len; simp; omega, by have := h.le; simp; omega⟩
theorem InP.done {starts kids : List Int} {cs ks : List Int} (h : InP starts kids kids.length cs ks) (hl : starts.length = kids.length) : innerL starts kids = (cs, ks) := by
  have := h.fold
  rw [List.take_length, List.take_of_length_le (by omega)] at this
  exact this
theorem fold_innerR : ∀ (ss kk cs ks : List Int), (List.zip ss kk).foldl innerStep (cs, ks) = (cs ++ (innerR (ks.getLastD 0) ss kk).1, ks ++ (innerR (ks.getLastD 0) ss kk).2)
  | [], kk, cs, ks => by simp [innerR]
  | s :: ss, [], cs, ks => by simp [innerR]
  | s :: ss, k :: kk, cs, ks => by
    simp only [List.zip_cons_cons, List.foldl_cons, innerStep, innerR]
    by_cases h : ks.getLastD 0 = k
    · rw [if_pos h, if_pos h]; exact fold_innerR ss kk cs ks
    · rw [if_neg h, if_neg h, fold_innerR ss kk (cs ++ [s]) (ks ++ [k])]
      simp
theorem innerK_of (l : List Nd) (i : Int) {starts kids cs ks : List Int} (hk : 0 < kids.length) (hs : starts.length = kids.length) (h : innerL starts kids = (cs, ks)) :
    innerK l i starts kids = if ks.length = 1 then (kids.headD 0, l) else (((posN l ⟨false, i, cs, ks⟩ : Nat) : Int), addN l ⟨false, i, cs, ks⟩) := by
  match starts, kids, hk, hs with
  | s0 :: ss, k0 :: kk, _, hs =>
    have h1 : innerL (s0 :: ss) (k0 :: kk) = ((innerR k0 ss kk).1, k0 :: (innerR k0 ss kk).2) := by
      unfold innerL
      simp only [List.headD_cons, List.zip_cons_cons, List.foldl_cons]
      have : innerStep ([], [k0]) (s0, k0) = ([], [k0]) := by simp [innerStep]
      rw [this, fold_innerR]
      simp
    rw [h1] at h
    injection h with ha hb
    subst ha hb
    by_cases hp : (innerR k0 ss kk).2 = []
    · rw [innerK_nil hp, hp]; simp
    · rw [innerK_cons hp, if_neg (by simpa using hp)]
  | [], k0 :: kk, _, hs => simp at hs
theorem new1_ (w : World) (o o2 : Obj) : ((w.alloc o).alloc o2).heap[w.heap.size + 1]? = some o2 := by
  have := new_ (w.alloc o) o2
  simpa using this
theorem PS.s {w0 W : World} {bN B1 : Nat} {i : Int} {v2 v3 vc vk : Value} {cs ks : List Int} (h : PS w0 W bN B1 i v2 v3 vc vk cs ks) {b o : Nat} {x : Int} (hb : b < w0.heap.size) (hx : w0.cell? ⟨b, o, none⟩ = some (.int .i64 x)) :
    W.cell? ⟨bN, 2, none⟩ = some v2 ∧ W.cell? ⟨bN, 3, none⟩ = some v3 ∧ W.cell? ⟨b, o, none⟩ = some (.int .i64 x) :=
  ⟨(four_ h.blk).2.2.1, (four_ h.blk).2.2.2.1, (h.below.cell (p := ⟨b, o, none⟩) hb).trans hx⟩
set_option maxRecDepth 100000 in
set_option maxHeartbeats 4000000 in
theorem inner_any (S Ss Sk : Nat → Prop) (B0 bm : Nat) (l : List Nd) (i : Int) (starts kids : List Int) (As Ak : Option Addr) (cs0 ck0 : Nat) (w : World) (hi : I64 i) (hk : 0 < kids.length) (hsk : starts.length = kids.length) (hkl : kids.length ≤ 900000) (hl : l.length ≤ 100000000)
    (hM : MkAt S w B0 bm l) (hs : IntsAt Ss w (.slice As starts.length cs0) starts) (hkd : IntsAt Sk w (.slice Ak kids.length ck0) kids) (ht : Tab w) :
    Calls Tryz.prog 46 #[.pointer (some ⟨bm, 0, none⟩), .int .i64 i, .slice As starts.length cs0, .slice Ak kids.length ck0] w fun e w' => e = .returned (.int .i64 (innerK l i starts kids).1) ∧ ∃ S', MkAt S' w' B0 bm (innerK l i starts kids).2 ∧ (∀ b, S' b → S b ∨ w.heap.size ≤ b) ∧ Mut B0 w w' ∧ NK bm w w' := by
  obtain ⟨bk, ok, rfl, hSk, hbk, hck, hkc⟩ := ints_row hkd hk
  have hk0 := hkc 0 hk
  have hck1 : (1 : Int) ≤ (ck0 : Int) := by omega
  have hkI := ints_i64 hkd (kids.headD 0) (by cases kids with
    | nil => simp at hk
    | cons a l => simp)
  have HM := Lib.hid hM
  have HS := Lib.hid hs
  have HK := Lib.hid hkd
  have HT := Lib.hid ht
  have HKC := Lib.hid hkc
  have LBM := Lib.hid (show bm < w.heap.size by
    obtain ⟨v, atv, h1, _⟩ := hM.mem
    exact blt_ h1)
  have HSK := Lib.hid hsk
  clear hM hs hkd ht hkc hsk
  go_enter Tryz.func46, Tryz.ntmps46
  go_wp2_with fail
  have hkh : kids.getD 0 0 = kids.headD 0 := by cases kids <;> rfl
  rw [hkh, Nat.add_zero] at hk0
  go_loopw [10, 11, 18] (fun _ _ v wr => ∃ (j : Nat) (cs ks : List Int) (vc vk : Value), j ≤ kids.length ∧ v = .int .i64 j ∧ Hid (InP starts kids j cs ks) ∧ Hid (PS w wr w.heap.size (w.heap.size + 1) i vc vk vc vk cs ks)) (fun _ _ v _ => kids.length - (intOf v).toNat)
  case atStart =>
    refine ⟨0, [], [kids.headD 0], _, _, Nat.zero_le _, rfl, Lib.hid (InP.zero _ _), Lib.hid ⟨box_below _ _, new_ _ _, OwnAt.nil _ _ _ _ _, .inr ⟨bk, ok, kids.headD 0, rfl, rfl, ?_, by omega, hkI⟩, fun g hg => (by cases hg), ⟨by omega, by simp⟩⟩⟩
    exact (World.cell?_of_block (a := ⟨bk, ok, none⟩) (Below.heap_alloc _ _ _ hbk)).trans hk0
  case round =>
    obtain ⟨j, cs, ks, vc, vk, hj, rfl, HP, HPS⟩ := hrel
    have HB := Lib.hid HPS.out.below
    by_cases hlt : j < kids.length
    · have hlts : j < starts.length := by have := HSK.out; omega
      have hkc := (HB.out.cell (p := ⟨bk, ok + j, none⟩) hbk).trans (HKC.out j hlt)
      obtain ⟨bs, os, rfl, _, hbs, k0w, ki⟩ := int_cell HS.out hlts
      have hbs' : bs < wr.heap.size := Nat.lt_of_lt_of_le hbs HB.out.size
      have k0 := (HB.out.cell (p := ⟨bs, os + j, none⟩) hbs).trans k0w
      have HX := Lib.hid (List.getElem?_eq_getElem hlts)
      have HY := Lib.hid (List.getElem?_eq_getElem hlt)
      have hyy : kids.getD j 0 = kids[j] := by simp [hlt]
      rw [hyy] at hkc
      have hki := ints_i64 HK.out kids[j] (List.getElem_mem hlt)
      clear hyy
      generalize kids[j] = y at *
      generalize starts[j] = x at *
      have HX0 := Lib.hid k0w
      clear k0w
      have hjk : (j : Int) < (kids.length : Int) := by omega
      have hjs : (j : Int) < (starts.length : Int) := by omega
      have lb := HB.out.size
      obtain ⟨p0, p1, p2, p3, pf⟩ := four_ HPS.out.blk
      have lN := blt_ HPS.out.blk
      obtain ⟨bl, ol, cl, rfl, hbl, hcl, hlast⟩ := HPS.out.rowK.last (by have := HP.out.len; omega)
      obtain ⟨m, hm⟩ : ∃ m, ks.length = m + 1 := ⟨cs.length, HP.out.len.symm⟩
      have HML := Lib.hid hm
      have hmle := HP.out.le
      rw [hm] at hlast p3 hmle
      rw [Nat.add_sub_cancel] at hlast
      generalize hz : ks.getLastD 0 = z at hlast
      have HZ := Lib.hid hz
      clear hz
      by_cases hyz : z = y
      · have hyz' : (y != z) = false := by rw [hyz]; simp
        have HP2 := Lib.hid (HP.out.same HX.out HY.out (by rw [HZ.out]; exact hyz))
        go_wp2_with fail
        go_roundw
        case rel => exact ⟨j + 1, cs, ks, vc, _, by omega, by go_num, HP2, HPS⟩
        case measure => simp [intOf]; omega
      · have hyz' : (y != z) = true := by simp; exact fun e => hyz e.symm
        have HP2 := Lib.hid (HP.out.more HX.out HY.out (by rw [HZ.out]; exact hyz))
        have hlc := HP.out.len
        have HCL := Lib.hid (show cs.length = m by omega)
        go_wp2_with fail
        have HPD := Lib.hid HPS.out.drew
        rw [← HML.out] at p3
        refine wp_region_L (S := fun W => W.cell? ⟨w.heap.size, 2, none⟩ = some vc ∧ W.cell? ⟨w.heap.size, 3, none⟩ = some (.slice (some ⟨bl, ol, none⟩) ks.length cl) ∧ W.cell? ⟨bs, os + j, none⟩ = some (.int .i64 x)) (T := [14, 16]) (by kernel_rfl) ⟨p2, p3, k0⟩ (fun hHeld => ?_)
        clear hHeld
        refine wpAnyL_pure (i := 0) (oi := _) (v := ?_) (some 33) rfl rfl (by kernel_rfl) (by kernel_rfl) (by kernel_rfl) (by kernel_rfl) (fun _ _ _ h => h) (fun _ => ⟨p2, p3, k0⟩) (Or.inl ⟨by rfl, ?_⟩) ?_
        rotate_left
        · intro w hSw; go_simp; try with_reducible rfl
        try simp only [Act.put, List.setIfInBounds_toArray, List.set_cons_zero, List.set_cons_succ]
        refine wpAnyL_pure (i := 2) (oi := _) (v := ?_) (some 35) rfl rfl (by kernel_rfl) (by kernel_rfl) (by kernel_rfl) (by kernel_rfl) (fun _ _ _ h => h) (fun _ => ⟨p2, p3, k0⟩) (Or.inl ⟨by rfl, ?_⟩) ?_
        rotate_left
        · intro w hSw; go_simp; try with_reducible rfl
        try simp only [Act.put, List.setIfInBounds_toArray, List.set_cons_zero, List.set_cons_succ]
        refine wpAnyL_pure (i := 3) (oi := _) (v := ?_) (some 36) rfl rfl (by kernel_rfl) (by kernel_rfl) (by kernel_rfl) (by kernel_rfl) (fun _ _ _ h => h) (fun _ => ⟨p2, p3, k0⟩) (Or.inl ⟨by rfl, ?_⟩) ?_
        rotate_left
        · intro w hSw; go_simp; try with_reducible rfl
        try simp only [Act.put, List.setIfInBounds_toArray, List.set_cons_zero, List.set_cons_succ]
        refine wpAnyL_pure (i := 4) (oi := _) (v := ?_) (some 37) rfl rfl (by kernel_rfl) (by kernel_rfl) (by kernel_rfl) (by kernel_rfl) (fun _ _ _ h => h) (fun _ => ⟨p2, p3, k0⟩) (Or.inl ⟨by rfl, ?_⟩) ?_
        rotate_left
        · intro w hSw; go_simp; try with_reducible rfl
        try simp only [Act.put, List.setIfInBounds_toArray, List.set_cons_zero, List.set_cons_succ]
        refine wpAnyL_pure (i := 8) (oi := _) (v := ?_) (some 41) rfl rfl (by kernel_rfl) (by kernel_rfl) (by kernel_rfl) (by kernel_rfl) (fun _ _ _ h => h) (fun _ => ⟨p2, p3, k0⟩) (Or.inl ⟨by rfl, ?_⟩) ?_
        rotate_left
        · intro w hSw; go_simp; try with_reducible rfl
        try simp only [Act.put, List.setIfInBounds_toArray, List.set_cons_zero, List.set_cons_succ]
        refine wpAnyL_pure (i := 10) (oi := _) (v := ?_) (some 43) rfl rfl (by kernel_rfl) (by kernel_rfl) (by kernel_rfl) (by kernel_rfl) (fun _ _ _ h => h) (fun _ => ⟨p2, p3, k0⟩) (Or.inl ⟨by rfl, ?_⟩) ?_
        rotate_left
        · intro w hSw; go_simp; try with_reducible rfl
        try simp only [Act.put, List.setIfInBounds_toArray, List.set_cons_zero, List.set_cons_succ]
        refine wpAnyL_load (i := 1) (oi := _) (v := ?_) (some 34) rfl rfl (by kernel_rfl) (by kernel_rfl) (by kernel_rfl) (by kernel_rfl) (fun _ _ _ h => h) (fun _ => ⟨p2, p3, k0⟩) (by kernel_rfl) (by kernel_rfl) (Or.inl ⟨by rfl, ?_⟩) ?_
        rotate_left
        · intro w hSw; (try dsimp only at hSw); go_simp; try with_reducible rfl
        try simp only [Act.put, List.setIfInBounds_toArray, List.set_cons_zero, List.set_cons_succ]
        refine wpAnyL_load (i := 5) (oi := _) (v := ?_) (some 38) rfl rfl (by kernel_rfl) (by kernel_rfl) (by kernel_rfl) (by kernel_rfl) (fun _ _ _ h => h) (fun _ => ⟨p2, p3, k0⟩) (by kernel_rfl) (by kernel_rfl) (Or.inl ⟨by rfl, ?_⟩) ?_
        rotate_left
        · intro w hSw; (try dsimp only at hSw); go_simp; try with_reducible rfl
        try simp only [Act.put, List.setIfInBounds_toArray, List.set_cons_zero, List.set_cons_succ]
        refine wpAnyL_load (i := 9) (oi := _) (v := ?_) (some 42) rfl rfl (by kernel_rfl) (by kernel_rfl) (by kernel_rfl) (by kernel_rfl) (fun _ _ _ h => h) (fun _ => ⟨p2, p3, k0⟩) (by kernel_rfl) (by kernel_rfl) (Or.inl ⟨by rfl, ?_⟩) ?_
        rotate_left
        · intro w hSw; (try dsimp only at hSw); go_simp; try with_reducible rfl
        try simp only [Act.put, List.setIfInBounds_toArray, List.set_cons_zero, List.set_cons_succ]
        refine wpAnyL_ready (rs := [6, 11]) (by kernel_rfl) (by simp) ?_
        refine ReadyL.cons rfl (fun K hK => ?_) ?_
        · go_simp
          have HPSx := Lib.hid (HPS.out.alloc (.cells #[.int .i64 x] 3))
          have HPSxD := Lib.hid HPSx.out.drew
          refine hK.out _ _ (fun _ => HPSxD.out.s hbs HX0.out) (fun _ => ?_)
          clear hK K
          try simp only [Act.put, List.setIfInBounds_toArray, List.set_cons_zero, List.set_cons_succ]
          refine wpAnyL_ready (rs := [7, 11]) (by kernel_rfl) (by simp) ?_
          refine ReadyL.cons rfl (fun K hK => ?_) ?_
          · refine step_row rfl (.tmp 34) (.tmp 39) rfl (w.heap.size + 1) vc cs (.inl HPSxD.out.ownC) rfl (wr.heap.size) rfl x (new_ wr _) ki (by omega) HPSxD.out.base.2 ?_
            intro gC capC WC hoC hgC hatC hnC hltC
            have PC := Lib.hid (HPSxD.out.appC hoC hgC hatC)
            clear hoC hgC hatC hnC hltC
            refine hK.out _ _ (fun _ => PC.out.s hbs HX0.out) (fun _ => ?_)
            clear hK K
            try simp only [Act.put, List.setIfInBounds_toArray]
            refine wpAnyL_pure (i := 13) (oi := _) (v := ?_) (some 46) rfl rfl (by kernel_rfl) (by kernel_rfl) (by kernel_rfl) (by kernel_rfl) (fun _ _ _ h => h) (fun _ => PC.out.s hbs HX0.out) (Or.inl ⟨by rfl, ?_⟩) ?_
            rotate_left
            · intro w hSw; go_simp; try with_reducible rfl
            try simp only [Act.put]
            refine wpAnyL_ready (rs := [11]) (by kernel_rfl) (by simp) ?_
            refine ReadyL.cons rfl (fun K hK => ?_) ReadyL.nil
            · go_simp
              have PCy := Lib.hid (PC.out.alloc (.cells #[.int .i64 y] 3))
              refine hK.out _ _ (fun _ => PCy.out.s hbs HX0.out) (fun _ => ?_)
              clear hK K
              try simp only [Act.put, List.setIfInBounds_toArray, List.set_cons_zero, List.set_cons_succ]
              refine wpAnyL_ready (rs := [12]) (by kernel_rfl) (by simp) ?_
              refine ReadyL.cons rfl (fun K hK => ?_) ReadyL.nil
              · refine step_row rfl (.tmp 42) (.tmp 44) rfl (w.heap.size + 1) (.slice (some ⟨bl, ol, none⟩) ks.length cl) ks PCy.out.rowK (by rw [HML.out]; rfl) (WC.heap.size) rfl y (new_ WC _) hki (by omega) PCy.out.base.2 ?_
                intro gK capK WK hoK hgK hatK hnK hltK
                have PK := Lib.hid (PCy.out.appK hoK hgK hnK hatK)
                have HOK := Lib.hid hoK
                clear hoK hgK hatK hnK hltK
                refine hK.out _ _ (fun _ => PK.out.s hbs HX0.out) (fun _ => ?_)
                clear hK K
                try simp only [Act.put, List.setIfInBounds_toArray]
                obtain ⟨q0, q1, q2, q3, qf⟩ := four_ PK.out.blk
                have lK := blt_ PK.out.blk
                refine wpAnyL_ready (rs := [14]) (by kernel_rfl) (by simp) ?_
                refine ReadyL.cons rfl (fun K hK => ?_) ReadyL.nil
                go_simp
                refine hK.out _ _ (fun hb => absurd ((hb 14 (by simp)).symm.trans (by kernel_rfl)) Bool.false_ne_true) (fun _ => ?_)
                clear hK K
                try simp only [Act.put, List.setIfInBounds_toArray, List.set_cons_zero, List.set_cons_succ]
                refine wpAnyL_pure (i := 15) (oi := _) (v := ?_) (some 47) rfl rfl (by kernel_rfl) (by kernel_rfl) (by kernel_rfl) (by kernel_rfl) (fun _ _ _ h => h) (fun hb => absurd ((hb 14 (by simp)).symm.trans (by kernel_rfl)) Bool.false_ne_true) (Or.inl ⟨by rfl, ?_⟩) ?_
                rotate_left
                · intro w hSw; go_simp; try with_reducible rfl
                try simp only [Act.put, List.setIfInBounds_toArray, List.set_cons_zero, List.set_cons_succ]
                refine wpAnyL_ready (rs := [16]) (by kernel_rfl) (by simp) ?_
                refine ReadyL.cons rfl (fun K hK => ?_) ReadyL.nil
                go_simp
                refine hK.out _ _ (fun hb => absurd ((hb 14 (by simp)).symm.trans (by kernel_rfl)) Bool.false_ne_true) (fun _ => ?_)
                clear hK K
                try simp only [Act.put, List.setIfInBounds_toArray, List.set_cons_zero, List.set_cons_succ]
                refine wpAnyL_done (by kernel_rfl) ?_ _
                go_wp2_with fail
                go_roundw
                case rel => exact ⟨j + 1, cs ++ [x], ks ++ [y], _, _, by omega, by go_num, HP2, Lib.hid (by have h := PK.out.store HOK.out (Nat.le_refl _); rw [HCL.out, HML.out] at h; exact h)⟩
                case measure => simp [intOf]; omega
          refine ReadyL.cons rfl (fun K hK => ?_) ReadyL.nil
          · go_simp
            have HPSxy := Lib.hid (HPSx.out.alloc (.cells #[.int .i64 y] 3))
            have HPSxyD := Lib.hid HPSxy.out.drew
            refine hK.out _ _ (fun _ => HPSxyD.out.s hbs HX0.out) (fun _ => ?_)
            clear hK K
            try simp only [Act.put, List.setIfInBounds_toArray, List.set_cons_zero, List.set_cons_succ]
            refine wpAnyL_ready (rs := [7]) (by kernel_rfl) (by simp) ?_
            refine ReadyL.cons rfl (fun K hK => ?_) ReadyL.nil
            · refine step_row rfl (.tmp 34) (.tmp 39) rfl (w.heap.size + 1) vc cs (.inl HPSxyD.out.ownC) rfl (wr.heap.size) rfl x (old_ (new_ wr _)) ki (by omega) HPSxyD.out.base.2 ?_
              intro gC capC WC hoC hgC hatC hnC hltC
              have PC := Lib.hid (HPSxyD.out.appC hoC hgC hatC)
              have HY1 := Lib.hid ((hgC.block (wr.heap.size + 1) (by first | (simp; done) | (simp; omega)) (fun e => by have := (own_lt HPS.out.ownC e.symm).1; omega)).trans (new1_ wr _ _))
              clear hoC hgC hatC hnC hltC
              refine hK.out _ _ (fun _ => PC.out.s hbs HX0.out) (fun _ => ?_)
              clear hK K
              try simp only [Act.put, List.setIfInBounds_toArray]
              refine wpAnyL_pure (i := 13) (oi := _) (v := ?_) (some 46) rfl rfl (by kernel_rfl) (by kernel_rfl) (by kernel_rfl) (by kernel_rfl) (fun _ _ _ h => h) (fun _ => PC.out.s hbs HX0.out) (Or.inl ⟨by rfl, ?_⟩) ?_
              rotate_left
              · intro w hSw; go_simp; try with_reducible rfl
              try simp only [Act.put]
              refine wpAnyL_ready (rs := [12]) (by kernel_rfl) (by simp) ?_
              refine ReadyL.cons rfl (fun K hK => ?_) ReadyL.nil
              · refine step_row rfl (.tmp 42) (.tmp 44) rfl (w.heap.size + 1) (.slice (some ⟨bl, ol, none⟩) ks.length cl) ks PC.out.rowK (by rw [HML.out]; rfl) (wr.heap.size + 1) rfl y HY1.out hki (by omega) PC.out.base.2 ?_
                intro gK capK WK hoK hgK hatK hnK hltK
                have PK := Lib.hid (PC.out.appK hoK hgK hnK hatK)
                have HOK := Lib.hid hoK
                clear hoK hgK hatK hnK hltK
                refine hK.out _ _ (fun _ => PK.out.s hbs HX0.out) (fun _ => ?_)
                clear hK K
                try simp only [Act.put]
                obtain ⟨q0, q1, q2, q3, qf⟩ := four_ PK.out.blk
                have lK := blt_ PK.out.blk
                refine wpAnyL_ready (rs := [14]) (by kernel_rfl) (by simp) ?_
                refine ReadyL.cons rfl (fun K hK => ?_) ReadyL.nil
                go_simp
                refine hK.out _ _ (fun hb => absurd ((hb 14 (by simp)).symm.trans (by kernel_rfl)) Bool.false_ne_true) (fun _ => ?_)
                clear hK K
                try simp only [Act.put, List.setIfInBounds_toArray, List.set_cons_zero, List.set_cons_succ]
                refine wpAnyL_pure (i := 15) (oi := _) (v := ?_) (some 47) rfl rfl (by kernel_rfl) (by kernel_rfl) (by kernel_rfl) (by kernel_rfl) (fun _ _ _ h => h) (fun hb => absurd ((hb 14 (by simp)).symm.trans (by kernel_rfl)) Bool.false_ne_true) (Or.inl ⟨by rfl, ?_⟩) ?_
                rotate_left
                · intro w hSw; go_simp; try with_reducible rfl
                try simp only [Act.put, List.setIfInBounds_toArray, List.set_cons_zero, List.set_cons_succ]
                refine wpAnyL_ready (rs := [16]) (by kernel_rfl) (by simp) ?_
                refine ReadyL.cons rfl (fun K hK => ?_) ReadyL.nil
                go_simp
                refine hK.out _ _ (fun hb => absurd ((hb 14 (by simp)).symm.trans (by kernel_rfl)) Bool.false_ne_true) (fun _ => ?_)
                clear hK K
                try simp only [Act.put, List.setIfInBounds_toArray, List.set_cons_zero, List.set_cons_succ]
                refine wpAnyL_done (by kernel_rfl) ?_ _
                go_wp2_with fail
                go_roundw
                case rel => exact ⟨j + 1, cs ++ [x], ks ++ [y], _, _, by omega, by go_num, HP2, Lib.hid (by have h := PK.out.store HOK.out (Nat.le_refl _); rw [HCL.out, HML.out] at h; exact h)⟩
                case measure => simp [intOf]; omega
        refine ReadyL.cons rfl (fun K hK => ?_) ReadyL.nil
        · go_simp
          have HPSy := Lib.hid (HPS.out.alloc (.cells #[.int .i64 y] 3))
          have HPSyD := Lib.hid HPSy.out.drew
          refine hK.out _ _ (fun _ => HPSyD.out.s hbs HX0.out) (fun _ => ?_)
          clear hK K
          try simp only [Act.put, List.setIfInBounds_toArray, List.set_cons_zero, List.set_cons_succ]
          refine wpAnyL_ready (rs := [6]) (by kernel_rfl) (by simp) ?_
          refine ReadyL.cons rfl (fun K hK => ?_) ReadyL.nil
          · go_simp
            have HPSyx := Lib.hid (HPSy.out.alloc (.cells #[.int .i64 x] 3))
            have HPSyxD := Lib.hid HPSyx.out.drew
            refine hK.out _ _ (fun _ => HPSyxD.out.s hbs HX0.out) (fun _ => ?_)
            clear hK K
            try simp only [Act.put, List.setIfInBounds_toArray, List.set_cons_zero, List.set_cons_succ]
            refine wpAnyL_ready (rs := [7]) (by kernel_rfl) (by simp) ?_
            refine ReadyL.cons rfl (fun K hK => ?_) ReadyL.nil
            · refine step_row rfl (.tmp 34) (.tmp 39) rfl (w.heap.size + 1) vc cs (.inl HPSyxD.out.ownC) rfl (wr.heap.size + 1) rfl x (new1_ wr _ _) ki (by omega) HPSyxD.out.base.2 ?_
              intro gC capC WC hoC hgC hatC hnC hltC
              have PC := Lib.hid (HPSyxD.out.appC hoC hgC hatC)
              have HY1 := Lib.hid ((hgC.block (wr.heap.size) (by first | (simp; done) | (simp; omega)) (fun e => by have := (own_lt HPS.out.ownC e.symm).1; omega)).trans (old_ (new_ wr _)))
              clear hoC hgC hatC hnC hltC
              refine hK.out _ _ (fun _ => PC.out.s hbs HX0.out) (fun _ => ?_)
              clear hK K
              try simp only [Act.put, List.setIfInBounds_toArray]
              refine wpAnyL_pure (i := 13) (oi := _) (v := ?_) (some 46) rfl rfl (by kernel_rfl) (by kernel_rfl) (by kernel_rfl) (by kernel_rfl) (fun _ _ _ h => h) (fun _ => PC.out.s hbs HX0.out) (Or.inl ⟨by rfl, ?_⟩) ?_
              rotate_left
              · intro w hSw; go_simp; try with_reducible rfl
              try simp only [Act.put]
              refine wpAnyL_ready (rs := [12]) (by kernel_rfl) (by simp) ?_
              refine ReadyL.cons rfl (fun K hK => ?_) ReadyL.nil
              · refine step_row rfl (.tmp 42) (.tmp 44) rfl (w.heap.size + 1) (.slice (some ⟨bl, ol, none⟩) ks.length cl) ks PC.out.rowK (by rw [HML.out]; rfl) (wr.heap.size) rfl y HY1.out hki (by omega) PC.out.base.2 ?_
                intro gK capK WK hoK hgK hatK hnK hltK
                have PK := Lib.hid (PC.out.appK hoK hgK hnK hatK)
                have HOK := Lib.hid hoK
                clear hoK hgK hatK hnK hltK
                refine hK.out _ _ (fun _ => PK.out.s hbs HX0.out) (fun _ => ?_)
                clear hK K
                try simp only [Act.put]
                obtain ⟨q0, q1, q2, q3, qf⟩ := four_ PK.out.blk
                have lK := blt_ PK.out.blk
                refine wpAnyL_ready (rs := [14]) (by kernel_rfl) (by simp) ?_
                refine ReadyL.cons rfl (fun K hK => ?_) ReadyL.nil
                go_simp
                refine hK.out _ _ (fun hb => absurd ((hb 14 (by simp)).symm.trans (by kernel_rfl)) Bool.false_ne_true) (fun _ => ?_)
                clear hK K
                try simp only [Act.put, List.setIfInBounds_toArray, List.set_cons_zero, List.set_cons_succ]
                refine wpAnyL_pure (i := 15) (oi := _) (v := ?_) (some 47) rfl rfl (by kernel_rfl) (by kernel_rfl) (by kernel_rfl) (by kernel_rfl) (fun _ _ _ h => h) (fun hb => absurd ((hb 14 (by simp)).symm.trans (by kernel_rfl)) Bool.false_ne_true) (Or.inl ⟨by rfl, ?_⟩) ?_
                rotate_left
                · intro w hSw; go_simp; try with_reducible rfl
                try simp only [Act.put, List.setIfInBounds_toArray, List.set_cons_zero, List.set_cons_succ]
                refine wpAnyL_ready (rs := [16]) (by kernel_rfl) (by simp) ?_
                refine ReadyL.cons rfl (fun K hK => ?_) ReadyL.nil
                go_simp
                refine hK.out _ _ (fun hb => absurd ((hb 14 (by simp)).symm.trans (by kernel_rfl)) Bool.false_ne_true) (fun _ => ?_)
                clear hK K
                try simp only [Act.put, List.setIfInBounds_toArray, List.set_cons_zero, List.set_cons_succ]
                refine wpAnyL_done (by kernel_rfl) ?_ _
                go_wp2_with fail
                go_roundw
                case rel => exact ⟨j + 1, cs ++ [x], ks ++ [y], _, _, by omega, by go_num, HP2, Lib.hid (by have h := PK.out.store HOK.out (Nat.le_refl _); rw [HCL.out, HML.out] at h; exact h)⟩
                case measure => simp [intOf]; omega
    · obtain rfl : j = kids.length := by omega
      have HIN := Lib.hid (innerK_of l i hk HSK.out (InP.done HP.out HSK.out))
      obtain ⟨p0, p1, p2, p3, pf⟩ := four_ HPS.out.blk
      have lN := blt_ HPS.out.blk
      have hl1 := HP.out.len
      have hl2 := HP.out.le
      have hbk' : bk < wr.heap.size := Nat.lt_of_lt_of_le hbk HB.out.size
      by_cases h1 : ks.length = 1
      · have hk00 := (HB.out.cell (p := ⟨bk, ok, none⟩) hbk).trans hk0
        obtain ⟨A3, c3, hv3⟩ := HPS.out.rowK.shape
        rw [hv3, h1] at p3
        have HRI := Lib.hid (show innerK l i starts kids = (kids.headD 0, l) by rw [HIN.out, if_pos h1])
        generalize kids.headD 0 = k0 at *
        have hkl0 : (0 : Int) < (kids.length : Int) := by omega
        clear h1 hl1 hl2 hv3 hk0
        go_wp2_with fail
        go_ret
        exact ⟨by rw [HRI.out]; rfl, S, by rw [HRI.out]; exact HM.out.keep HB.out, fun b hb => .inl hb, Mut.of_below HB.out, NK.of_below LBM.out HB.out⟩
      · have HRI := Lib.hid (show innerK l i starts kids = (((posN l ⟨false, i, cs, ks⟩ : Nat) : Int), addN l ⟨false, i, cs, ks⟩) by rw [HIN.out, if_neg h1])
        have hown : OwnAt wr (w.heap.size + 1) 3 1 IntR vk ks := by
          rcases HPS.out.rowK with h | ⟨_, _, _, _, rfl, _⟩
          · exact h
          · exact absurd rfl h1
        obtain ⟨A2, c2, rfl⟩ := HPS.out.ownC.shape
        obtain ⟨A3, c3, rfl⟩ := hown.shape
        have HOW := Lib.hid hown
        have h1' : ((ks.length : Int) == 1) = false := beq_eq_false_iff_ne.2 (by omega)
        have HL1 := Lib.hid hl1
        clear hl1 h1 hown
        go_wp2_with fail
        refine (node_any2 S (fun b => (Value.slice A2 cs.length c2).ownBlock = some b ∨ (Value.slice A3 ks.length c3).ownBlock = some b) B0 bm l ⟨false, i, cs, ks⟩ A2 c2 A3 c3 wr (by have := HL1.out; simp only; omega) (by simp only; omega) hl (HM.out.keep HB.out) ⟨hi, HPS.out.ownC.slice (fun g c h _ => .inl h) (by unfold N44; have := HL1.out; omega) (fun _ _ _ h => h), HOW.out.slice (fun g c h _ => .inr h) (by unfold N44; omega) (fun _ _ _ h => h)⟩ (fun b hb => ?_) (HT.out.keep HB.out)).mono ?_
        · rcases hb with hb | hb
          · obtain ⟨h1, _, c, h2⟩ := own_lt HPS.out.ownC hb
            exact ⟨h1, .inr ⟨c, 3, _, h2, rfl⟩⟩
          · obtain ⟨h1, _, c, h2⟩ := own_lt HOW.out hb
            exact ⟨h1, .inr ⟨c, 3, _, h2, rfl⟩⟩
        · rintro e w5 ⟨rfl, hm5, hu5, hn5⟩
          have HN5 := Lib.hid ((NK.of_below LBM.out HB.out).trans hn5)
          have HM5 := Lib.hid hm5
          have HU5 := Lib.hid ((Mut.of_below HB.out).trans hu5)
          clear hm5 hu5 hn5
          go_wp2_with fail
          go_ret
          exact ⟨by rw [HRI.out]; rfl, _, by rw [HRI.out]; exact HM5.out, fun b hb => Or.imp id (fun hb => by
            rcases hb with hb | hb
            · have := (own_lt HPS.out.ownC hb).2.1; omega
            · have := (own_lt HOW.out hb).2.1; omega) hb, HU5.out, HN5.out⟩
end Go.Proofs.YtfajbcjcigajfaaGreatDoor
