/- Part of the proof of a law of customhouselaw26: the texts R3. -/
import Derived.Test.YtfajbcjcigajfaaGreatDoorMP6P7
import Derived.Test.YtfajbcjcigajfaaGreatDoorMV2
import Derived.Test.YtfajbcjcigajfaaGreatDoorMR2
/- The walk of Build (under way). -/
namespace Go.Proofs.YtfajbcjcigajfaaGreatDoor
open Go.RowKit Go.Maps

def growB (fs : List Fc) (f : Fm) : Int × St := growP fs 0 (given ⟨#[]⟩ 0 f) ⟨[], [], false⟩
/-- What Build answers: the nodes and the error's number. -/
def buildK (fs : List Fc) (f : Fm) : List Nd × Int :=
  if validD fs = false ∨ checkF fs f ≠ 0 then ([], 1)
  else if 24 < (addAll [] (namesF f)).length then ([], 2)
  else if (growB fs f).2.full = true then ([], 2)
  else fromK (growB fs f).2.l (growB fs f).1
theorem ints_ne {w : World} {br n c : Nat} {A : Option Addr} {t : TypeId} {fr : Nat × Nat} {v : Value} {xs : List Int} (h : IntsAt (fun _ => True) w v xs) (hb : w.heap[br]? = some (.cells #[.slice A n c] t fr)) : IntsAt (fun b => b ≠ br) w v xs := by
  obtain ⟨A', c', rfl, hc, hl, hr⟩ := h
  refine ⟨A', c', rfl, hc, hl, fun hp => ?_⟩
  obtain ⟨b, o, rfl, _, hbl, hx⟩ := hr hp
  refine ⟨b, o, rfl, ?_, hbl, hx⟩
  rintro rfl
  obtain ⟨cs, hcs, ⟨rfl, _⟩, h3⟩ := hx 0 xs[0] (List.getElem?_eq_getElem hp)
  have h4 := h3 0 _ rfl
  cases o with
  | zero => simp [World.cell?, hb] at h4
  | succ o => simp [World.cell?, hb] at h4
theorem nds_ne {w : World} {br n c : Nat} {A : Option Addr} {t : TypeId} {fr : Nat × Nat} {v : Value} {g : List Nd} (h : NdsAt (fun _ => True) w v g) (hb : w.heap[br]? = some (.cells #[.slice A n c] t fr)) : NdsAt (fun b => b ≠ br) w v g := by
  obtain ⟨A', c', rfl, hc, hl, hr⟩ := h
  refine ⟨A', c', rfl, hc, hl, fun hp => ?_⟩
  obtain ⟨b, o, rfl, _, hbl, hx⟩ := hr hp
  refine ⟨b, o, rfl, ?_, hbl, fun j x hj => ?_⟩
  · rintro rfl
    obtain ⟨cs, hcs, ⟨v2, v3, rfl, _⟩, h3⟩ := hx 0 g[0] (List.getElem?_eq_getElem hp)
    have h4 := h3 0 _ rfl
    cases o with
    | zero => simp [World.cell?, hb] at h4
    | succ o => simp [World.cell?, hb] at h4
  · obtain ⟨cs, hcs, ⟨v2, v3, e, h1, h2, h3⟩, h4⟩ := hx j x hj
    exact ⟨cs, hcs, ⟨v2, v3, e, h1, ints_ne h2 hb, ints_ne h3 hb⟩, h4⟩
theorem valid_len {fs : List Fc} (h : validD fs = true) : fs.length ≤ 60 := by
  unfold validD at h
  simp only [Bool.and_eq_true, decide_eq_true_eq] at h
  exact h.2
theorem valid_lohi {fs : List Fc} (h : validD fs = true) : ∀ x ∈ fs, x.lo ≤ x.hi := by
  have key : ∀ (fs : List Fc) (seen : List ByteArray), validF seen fs = true → ∀ x ∈ fs, x.lo ≤ x.hi := by
    intro fs
    induction fs with
    | nil => intro _ _ x hx; cases hx
    | cons y fs ih =>
      intro seen h x hx
      simp only [validF, Bool.and_eq_true] at h
      rcases List.mem_cons.1 hx with rfl | hx
      · have h1 := h.1.1.1
        unfold kindOk at h1
        simp only [decide_eq_true_eq] at h1
        omega
      · exact ih _ h.2 x hx
  unfold validD at h
  simp only [Bool.and_eq_true] at h
  exact key fs [] h.1
set_option maxRecDepth 100000 in
set_option maxHeartbeats 8000000 in
theorem build_any (S SF : Nat → Prop) (d : Nat) (f : Fm) (A : Option Addr) (c : Nat) (fs : List Fc) (v : Value) (w : World) (hf : FmR S w d f (fv f A c)) (hn : nodesF f ≤ 100000) (hx : FcsAt SF w v fs) (ht : Tab w) :
    Calls Tryz.prog 12 #[fmV f A c, .agg #[v]] w fun e w' => ∃ v', e = .returned (.tuple #[.agg #[v'], .int .i64 (buildK fs f).2]) ∧ NdsAt (fun _ => True) w' v' (buildK fs f).1 ∧ Below w.heap.size w w' := by
  obtain ⟨AD, cD, rfl, _⟩ := id hx
  have hb0 : Below w.heap.size w (((w.alloc (.cells #[.int .i64 f.op, .string f.name, .int .i64 f.cmp, .int .i64 f.n, .slice A f.kids.length c] 24)).alloc (.cells #[.slice AD fs.length cD] 27)).alloc (.cells #[.slice none 0 0] 34)) := (((Below.refl _ _).alloc (Nat.le_refl _) _).alloc (by simp) _).alloc (by simp; omega) _
  have HB0 := Lib.hid hb0
  have HC1 := Lib.hid (show (((w.alloc (.cells #[.int .i64 f.op, .string f.name, .int .i64 f.cmp, .int .i64 f.n, .slice A f.kids.length c] 24)).alloc (.cells #[.slice AD fs.length cD] 27)).alloc (.cells #[.slice none 0 0] 34)).heap[w.heap.size]? = some (.cells #[.int .i64 f.op, .string f.name, .int .i64 f.cmp, .int .i64 f.n, .slice A f.kids.length c] 24 (0, 0)) from old_ (old_ (new_ _ _)))
  have HC2 := Lib.hid (show (((w.alloc (.cells #[.int .i64 f.op, .string f.name, .int .i64 f.cmp, .int .i64 f.n, .slice A f.kids.length c] 24)).alloc (.cells #[.slice AD fs.length cD] 27)).alloc (.cells #[.slice none 0 0] 34)).heap[w.heap.size + 1]? = some (.cells #[.slice AD fs.length cD] 27 (0, 0)) from old_ (alk _ _ (by simp)))
  have HC3 := Lib.hid (show (((w.alloc (.cells #[.int .i64 f.op, .string f.name, .int .i64 f.cmp, .int .i64 f.n, .slice A f.kids.length c] 24)).alloc (.cells #[.slice AD fs.length cD] 27)).alloc (.cells #[.slice none 0 0] 34)).heap[w.heap.size + 1 + 1]? = some (.cells #[.slice none 0 0] 34 (0, 0)) from alk _ _ (by simp))
  have HF := Lib.hid hf
  have HX := Lib.hid hx
  have HT := Lib.hid (Lib.tabBelow_of_tabIs ht)
  clear hb0 hf hx ht
  go_enter Tryz.func12, Tryz.ntmps12
  go_wp2_with fail
  refine (validFact_any SF fs _ _ (HX.out.keep HB0.out.size (Agree.of_below HB0.out) (fun _ _ h => h))).mono ?_
  rintro e w1 ⟨rfl, hb1⟩
  have HBA := Lib.hid (bthen HB0.out hb1)
  have HD1 := Lib.hid (below_ hb1 HC1.out)
  have HD2 := Lib.hid (below_ hb1 HC2.out)
  have HD3 := Lib.hid (below_ hb1 HC3.out)
  clear hb1 HC1 HC2 HC3
  obtain ⟨x0, x1, x2, x3, x4, _⟩ := five_ HD1.out
  have lx := blt_ HD1.out
  obtain ⟨d0, d1⟩ := one_ HD2.out
  have ld := blt_ HD2.out
  obtain ⟨r0, r1⟩ := one_ HD3.out
  have lr := blt_ HD3.out
  cases hvd : validD fs
  · have HV := Lib.hid (show buildK fs f = ([], 1) by unfold buildK; rw [if_pos (.inl hvd)])
    clear hvd
    go_wp2_with fail
    refine bodyPost_ret (v := .tuple #[.agg #[.slice none 0 0], .int .i64 1]) (by simp [results, Tryz.results12, go_sem, r0]) rfl ?_
    refine ⟨.slice none 0 0, by rw [HV.out], by rw [HV.out]; exact SliceAt.nil _ _ _ _, ?_⟩
    exact HBA.out.setCell (by simp; omega) _
  · have HVD := Lib.hid hvd
    clear hvd
    go_wp2_with fail
    refine (check_any S SF d f A c fs _ w1 (HF.out.keep HBA.out.size (Agree.of_below HBA.out) (fun _ _ h => h)) hn (HX.out.keep HBA.out.size (Agree.of_below HBA.out) (fun _ _ h => h))).mono ?_
    rintro e w2 ⟨rfl, hb2⟩
    have HBB := Lib.hid (bthen HBA.out hb2)
    have HE1 := Lib.hid (below_ hb2 HD1.out)
    have HE2 := Lib.hid (below_ hb2 HD2.out)
    have HE3 := Lib.hid (below_ hb2 HD3.out)
    clear hb2 HD1 HD2 HD3 x0 x1 x2 x3 x4 lx d0 d1 ld r0 r1 lr
    obtain ⟨x0, x1, x2, x3, x4, _⟩ := five_ HE1.out
    have lx := blt_ HE1.out
    obtain ⟨d0, d1⟩ := one_ HE2.out
    have ld := blt_ HE2.out
    obtain ⟨r0, r1⟩ := one_ HE3.out
    have lr := blt_ HE3.out
    by_cases hck : checkF fs f = 0
    · have hck' : (checkF fs f != 0) = false := by simp [hck]
      have HCK := Lib.hid hck
      clear hck
      have hmk : ∀ w, (Instr.makeMap 62 none).run Tryz.prog w = .ok (.map (some w.heap.size)) (w.alloc (.map #[] 0)) := fun w => by kernel_rfl
      go_wp2_with fail
      have hzB := HBB.out.size
      refine (tested_any w2.heap.size d (fun b => S b ∧ b < w.heap.size) f A c [] (w2.alloc (.map #[] 0)) (HF.out.keep (by simp; omega) (fun b hb _ => (HBB.out.alloc HBB.out.size _).block b hb) (fun b hb hs => ⟨hs, hb⟩)) (fun k hk => by have := hk.2; omega) (MapAt.made w2)).mono ?_
      rintro e w3 ⟨rfl, hs3, hc3⟩
      have hb3 : Below w2.heap.size w2 w3 := ⟨hc3.os, hc3.tape, hc3.output, Nat.le_trans (by simp) hc3.size, fun k hk => (hc3.block k (by simp; omega) (by omega)).trans (Below.heap_alloc _ _ _ hk)⟩
      have HB3 := Lib.hid (bthen HBB.out hb3)
      have HF1 := Lib.hid (below_ hb3 HE1.out)
      have HF2 := Lib.hid (below_ hb3 HE2.out)
      have HF3 := Lib.hid (below_ hb3 HE3.out)
      obtain ⟨es, cl, hm1, hm2, _, _⟩ := id hs3
      have hsz : es.size = (addAll [] (namesF f)).length := by have := congrArg List.length hm2; simpa using this
      clear hs3 hc3 hb3 hm2 HE1 HE2 HE3 x0 x1 x2 x3 x4 lx d0 d1 ld r0 r1 lr
      obtain ⟨x0, x1, x2, x3, x4, _⟩ := five_ HF1.out
      have lx := blt_ HF1.out
      obtain ⟨d0, d1⟩ := one_ HF2.out
      have ld := blt_ HF2.out
      obtain ⟨r0, r1⟩ := one_ HF3.out
      have lr := blt_ HF3.out
      have hln : (Builtin.len_ #[62] 3 #[.map (some w2.heap.size)]).run Tryz.prog w3 = .ok (.int .i64 ((addAll [] (namesF f)).length : Int)) w3 := by
        rw [← hsz]
        simp [Builtin.len_, run_underlying Tryz.underlying62, MapKept.run_getObj_map hm1, Result.andThen, goInt]
      have HSZ := Lib.hid hsz
      clear hm1 hsz
      by_cases h24 : 24 < (addAll [] (namesF f)).length
      · have h24' : (24 : Int) < ((addAll [] (namesF f)).length : Int) := by omega
        have HV := Lib.hid (show buildK fs f = ([], 2) by unfold buildK; rw [if_neg (by rw [HVD.out, HCK.out]; simp), if_pos h24])
        clear h24
        go_wp2_with fail
        refine bodyPost_ret (v := .tuple #[.agg #[.slice none 0 0], .int .i64 2]) (by simp [results, Tryz.results12, go_sem, r0]) rfl ?_
        refine ⟨.slice none 0 0, by rw [HV.out], by rw [HV.out]; exact SliceAt.nil _ _ _ _, ?_⟩
        exact HB3.out.setCell (by simp; omega) _
      · have h24' : ¬ (24 : Int) < ((addAll [] (namesF f)).length : Int) := by omega
        have H24 := Lib.hid h24
        clear h24
        have hmk65 : ∀ w, (Instr.makeMap 65 none).run Tryz.prog w = .ok (.map (some w.heap.size)) (w.alloc (.map #[] 0)) := fun w => by kernel_rfl
        go_wp2_with fail
        obtain ⟨hok, hnf, hdf⟩ := check_ok HCK.out
        have HOK := Lib.hid hok
        have HB4 := Lib.hid (show Below w3.heap.size w3 ((((((w3.alloc (.cells #[.slice none 0 0, .map none] 69)).alloc (.cells #[.pointer (some ⟨w3.heap.size, 0, none⟩)] 64)).alloc (.map #[] 0)).alloc (.cells #[.map (some (w3.heap.size + 1 + 1))] 65)).alloc (.cells #[.bool false] 4)).alloc (.cells #[.func (Fn.func 39) #[] #[.pointer (some ⟨w3.heap.size + 1, 0, none⟩), .pointer (some ⟨w3.heap.size + 1 + 1 + 1 + 1, 0, none⟩), .pointer (some ⟨w.heap.size + 1, 0, none⟩), .pointer (some ⟨w3.heap.size + 1 + 1 + 1, 0, none⟩), .pointer (some ⟨w3.heap.size + 1 + 1 + 1 + 1 + 1, 0, none⟩)]] 70)) from ((((((Below.refl _ _).alloc (Nat.le_refl _) _).alloc (by simp) _).alloc (by simp; omega) _).alloc (by simp; omega) _).alloc (by simp; omega) _).alloc (by simp; omega) _)
        have HG4 := Lib.hid (show GAt (fun _ => False) ((((((w3.alloc (.cells #[.slice none 0 0, .map none] 69)).alloc (.cells #[.pointer (some ⟨w3.heap.size, 0, none⟩)] 64)).alloc (.map #[] 0)).alloc (.cells #[.map (some (w3.heap.size + 1 + 1))] 65)).alloc (.cells #[.bool false] 4)).alloc (.cells #[.func (Fn.func 39) #[] #[.pointer (some ⟨w3.heap.size + 1, 0, none⟩), .pointer (some ⟨w3.heap.size + 1 + 1 + 1 + 1, 0, none⟩), .pointer (some ⟨w.heap.size + 1, 0, none⟩), .pointer (some ⟨w3.heap.size + 1 + 1 + 1, 0, none⟩), .pointer (some ⟨w3.heap.size + 1 + 1 + 1 + 1 + 1, 0, none⟩)]] 70)) w3.heap.size w3.heap.size (w3.heap.size + 1) (w3.heap.size + 1 + 1 + 1 + 1) (w.heap.size + 1) (w3.heap.size + 1 + 1 + 1) (w3.heap.size + 1 + 1 + 1 + 1 + 1) (w3.heap.size + 1 + 1) AD cD fs ⟨[], [], false⟩ from
          ⟨old_ (old_ (old_ (old_ (alk _ _ (by simp))))), old_ (alk _ _ (by simp)), (HB4.out.block _ (blt_ HF2.out)).trans HF2.out, old_ (old_ (alk _ _ (by simp))), alk _ _ (by simp), (((MapAt.made' _ (by simp)).alloc _).alloc _).alloc _, ⟨fun _ => False, ⟨Nat.le_refl _, fun b hb => hb.elim, .slice none 0 0, .map none, old_ (old_ (old_ (old_ (old_ (new_ _ _))))), OwnAt.nil _ _ _ _ _, .inl ⟨rfl, rfl⟩⟩, fun b hb => hb.elim⟩, by omega, fun p hp => (by cases hp), fun v e => by
            have h1 : ((((((w3.alloc (.cells #[.slice none 0 0, .map none] 69)).alloc (.cells #[.pointer (some ⟨w3.heap.size, 0, none⟩)] 64)).alloc (.map #[] 0)).alloc (.cells #[.map (some (w3.heap.size + 1 + 1))] 65)).alloc (.cells #[.bool false] 4)).alloc (.cells #[.func (Fn.func 39) #[] #[.pointer (some ⟨w3.heap.size + 1, 0, none⟩), .pointer (some ⟨w3.heap.size + 1 + 1 + 1 + 1, 0, none⟩), .pointer (some ⟨w.heap.size + 1, 0, none⟩), .pointer (some ⟨w3.heap.size + 1 + 1 + 1, 0, none⟩), .pointer (some ⟨w3.heap.size + 1 + 1 + 1 + 1 + 1, 0, none⟩)]] 70)).heap[w3.heap.size]? = some (.cells #[.slice none 0 0, .map none] 69 (0, 0)) := old_ (old_ (old_ (old_ (old_ (new_ _ _)))))
            rw [h1] at e
            simp at e⟩)
        obtain ⟨W4, hW4⟩ : ∃ W4, W4 = ((((((w3.alloc (.cells #[.slice none 0 0, .map none] 69)).alloc (.cells #[.pointer (some ⟨w3.heap.size, 0, none⟩)] 64)).alloc (.map #[] 0)).alloc (.cells #[.map (some (w3.heap.size + 1 + 1))] 65)).alloc (.cells #[.bool false] 4)).alloc (.cells #[.func (Fn.func 39) #[] #[.pointer (some ⟨w3.heap.size + 1, 0, none⟩), .pointer (some ⟨w3.heap.size + 1 + 1 + 1 + 1, 0, none⟩), .pointer (some ⟨w.heap.size + 1, 0, none⟩), .pointer (some ⟨w3.heap.size + 1 + 1 + 1, 0, none⟩), .pointer (some ⟨w3.heap.size + 1 + 1 + 1 + 1 + 1, 0, none⟩)]] 70)) := ⟨_, rfl⟩
        rw [← hW4] at HB4 HG4 ⊢
        clear hW4 x0 x1 x2 x3 x4 lx d0 d1 ld r0 r1 lr hln hmk hmk65 hck' h24'
        have HBW := Lib.hid (bthen HB3.out HB4.out)
        have HSW := Lib.hid (show ∀ W, Mut w3.heap.size W4 W → W.cell? ⟨w3.heap.size + 1 + 1 + 1 + 1 + 1, 0, none⟩ = some (.func (Fn.func 39) #[] #[.pointer (some ⟨w3.heap.size + 1, 0, none⟩), .pointer (some ⟨w3.heap.size + 1 + 1 + 1 + 1, 0, none⟩), .pointer (some ⟨w.heap.size + 1, 0, none⟩), .pointer (some ⟨w3.heap.size + 1 + 1 + 1, 0, none⟩), .pointer (some ⟨w3.heap.size + 1 + 1 + 1 + 1 + 1, 0, none⟩)]) ∧ W.cell? ⟨w.heap.size, 0, none⟩ = some (.int .i64 f.op) ∧ W.cell? ⟨w.heap.size, 1, none⟩ = some (.string f.name) ∧ W.cell? ⟨w.heap.size, 2, none⟩ = some (.int .i64 f.cmp) ∧ W.cell? ⟨w.heap.size, 3, none⟩ = some (.int .i64 f.n) ∧ W.cell? ⟨w.heap.size, 4, none⟩ = some (.slice A f.kids.length c) from fun W hW => by
          have g1 := (HB4.out.block _ (blt_ HF1.out)).trans HF1.out
          obtain ⟨y0, y1, y2, y3, y4, _⟩ := five_ ((hW.block _ (blt_ g1) (.inr ⟨_, 24, _, g1, rfl⟩)).trans g1)
          exact ⟨(one_ ((hW.block _ (blt_ HG4.out.fn) (.inr ⟨_, 70, _, HG4.out.fn, rfl⟩)).trans HG4.out.fn)).1, y0, y1, y2, y3, y4⟩)
        have HS0 := Lib.hid (HSW.out W4.drew (Mut.of_below (Below.refl _ _).drew))
        have HFD := Lib.hid (show FmR (fun b => S b ∧ b < w.heap.size) W4.drew d f (fv f A c) from FmR.keep (w := w) (w' := W4.drew) HBW.out.size (fun b hb _ => HBW.out.block b hb) (fun b hb hs => ⟨hs, hb⟩) HF.out)
        refine wp_region_L (S := fun W => W.cell? ⟨w3.heap.size + 1 + 1 + 1 + 1 + 1, 0, none⟩ = some (.func (Fn.func 39) #[] #[.pointer (some ⟨w3.heap.size + 1, 0, none⟩), .pointer (some ⟨w3.heap.size + 1 + 1 + 1 + 1, 0, none⟩), .pointer (some ⟨w.heap.size + 1, 0, none⟩), .pointer (some ⟨w3.heap.size + 1 + 1 + 1, 0, none⟩), .pointer (some ⟨w3.heap.size + 1 + 1 + 1 + 1 + 1, 0, none⟩)]) ∧ W.cell? ⟨w.heap.size, 0, none⟩ = some (.int .i64 f.op) ∧ W.cell? ⟨w.heap.size, 1, none⟩ = some (.string f.name) ∧ W.cell? ⟨w.heap.size, 2, none⟩ = some (.int .i64 f.cmp) ∧ W.cell? ⟨w.heap.size, 3, none⟩ = some (.int .i64 f.n) ∧ W.cell? ⟨w.heap.size, 4, none⟩ = some (.slice A f.kids.length c)) (T := []) (by kernel_rfl) HS0.out (fun _ => ?_)
        refine wpAnyL_load (i := 0) (oi := _) (v := ?_) (some 31) rfl rfl (by kernel_rfl) (by kernel_rfl) (by kernel_rfl) (by kernel_rfl) (fun _ _ _ h => h) (fun _ => HS0.out) (by kernel_rfl) (by kernel_rfl) (Or.inl ⟨by rfl, ?_⟩) ?_
        rotate_left
        · intro W hSw; (try dsimp only at hSw); go_simp; try with_reducible rfl
        try simp only [Act.put, List.setIfInBounds_toArray, List.set_cons_zero, List.set_cons_succ]
        refine wpAnyL_load (i := 1) (oi := _) (v := ?_) (some 32) rfl rfl (by kernel_rfl) (by kernel_rfl) (by kernel_rfl) (by kernel_rfl) (fun _ _ _ h => h) (fun _ => HS0.out) (by kernel_rfl) (by kernel_rfl) (Or.inl ⟨by rfl, ?_⟩) ?_
        rotate_left
        · intro W hSw; (try dsimp only at hSw); go_simp; try with_reducible rfl
        try simp only [Act.put, List.setIfInBounds_toArray, List.set_cons_zero, List.set_cons_succ]
        refine wpAnyL_ready (rs := [2]) (by kernel_rfl) (by simp) ?_
        refine ReadyL.cons rfl (fun K hK => ?_) ReadyL.nil
        go_simp
        refine (given_any ⟨#[]⟩ 0 d (fun b => S b ∧ b < w.heap.size) W4.drew f A c HFD.out (ok_fmok f HOK.out hnf)).mono ?_
        rintro e wB ⟨Ag, cg, rfl, hfg, hbB⟩
        have HFG := Lib.hid hfg
        have HBB4 := Lib.hid (show Below W4.heap.size W4 wB from (Below.refl _ _).drew.trans hbB)
        clear hfg hbB
        refine hK.out _ _ (fun _ => HSW.out _ (Mut.of_below HBB4.out)) (fun _ => ?_)
        clear hK K
        try simp only [Act.put, List.setIfInBounds_toArray, List.set_cons_zero, List.set_cons_succ]
        refine wpAnyL_ready (rs := [3]) (by kernel_rfl) (by simp) ?_
        refine ReadyL.cons rfl (fun K hK => ?_) ReadyL.nil
        go_simp
        have hwz := HBW.out.size
        have hz4 := HB4.out.size
        have hz3 := HB3.out.size
        have hgr := grow_any w3.heap.size w3.heap.size (w3.heap.size + 1) (w3.heap.size + 1 + 1 + 1 + 1) (w.heap.size + 1) (w3.heap.size + 1 + 1 + 1) (w3.heap.size + 1 + 1 + 1 + 1 + 1) (w3.heap.size + 1 + 1) AD cD fs (valid_len HVD.out) (valid_lohi HVD.out) fs 0 rfl (Nat.zero_le _) (fun _ => False) d (SN (fun b => S b ∧ b < w.heap.size) W4.drew wB) (given ⟨#[]⟩ 0 f) Ag cg ⟨[], [], false⟩ wB (fun b hb => hb.elim) HFG.out (fun b hb => by
          rcases hb with hb | ⟨hb, c2, hc2⟩
          · exact ⟨Nat.lt_of_lt_of_le hb.2 HBB4.out.size, .inl (Nat.lt_of_lt_of_le hb.1.2 hz3)⟩
          · exact ⟨blt_ hc2, .inr ⟨c2, 24, _, hc2, rfl⟩⟩) (given_ok ⟨#[]⟩ 0 HOK.out) (Nat.le_trans (given_nodes ⟨#[]⟩ 0 f (ok_form HOK.out)) hnf) (by decide) (HG4.out.below HBB4.out) (HX.out.keep (bthen HBW.out HBB4.out).size (Agree.of_below (bthen HBW.out HBB4.out)) (fun b hb _ => Nat.lt_of_lt_of_le hb hz3)) (fun w' hb => HT.out w' ((bthen HBW.out HBB4.out).trans (hb.mono hz3))) (Nat.le_trans hz4 HBB4.out.size)
        refine hgr.mono ?_
        rintro e w5 ⟨rfl, hg5, hu5, _⟩
        have HG5 := Lib.hid hg5
        have HU5 := Lib.hid ((Mut.of_below HBB4.out).trans hu5)
        have HB5 := Lib.hid ((bthen HBW.out HBB4.out).trans ((hu5.below (Nat.le_trans hz4 HBB4.out.size)).mono hz3))
        have HRES := Lib.hid ((HU5.out.block _ (blt_ ((HB4.out.block _ (blt_ HF3.out)).trans HF3.out)) (.inl (blt_ HF3.out))).trans ((HB4.out.block _ (blt_ HF3.out)).trans HF3.out))
        clear hgr hg5 hu5
        refine hK.out _ _ (fun _ => HSW.out _ HU5.out) (fun _ => ?_)
        clear hK K
        try simp only [Act.put, List.setIfInBounds_toArray, List.set_cons_zero, List.set_cons_succ]
        refine wpAnyL_pure (i := 4) (oi := _) (v := ?_) (some 10) rfl rfl (by kernel_rfl) (by kernel_rfl) (by kernel_rfl) (by kernel_rfl) (fun _ _ _ h => h) (fun _ => HSW.out _ HU5.out) (Or.inl ⟨by rfl, ?_⟩) ?_
        rotate_left
        · intro W hSw; go_simp; try with_reducible rfl
        try simp only [Act.put, List.setIfInBounds_toArray, List.set_cons_zero, List.set_cons_succ]
        refine wpAnyL_done (by kernel_rfl) ?_ _
        have HRG := Lib.hid (grow_rg fs 0 (given ⟨#[]⟩ 0 f) ⟨[], [], false⟩ (valid_lohi HVD.out) ⟨fun k hk => by have h1 := hk.1; have h2 := hk.2; simp at h2; omega, fun p hp => by cases hp⟩)
        have HSM := Lib.hid (grow_sm (fs := fs) fs 0 (given ⟨#[]⟩ 0 f) ⟨[], [], false⟩ (valid_lohi HVD.out) (given_ok ⟨#[]⟩ 0 HOK.out) (Nat.le_trans (given_nodes ⟨#[]⟩ 0 f (ok_form HOK.out)) hnf) (fun x hx => by cases hx))
        have hsz5 := grow_size fs 0 (given ⟨#[]⟩ 0 f) ⟨[], [], false⟩
        have hl60 := valid_len HVD.out
        have HBK := Lib.hid (show buildK fs f = if (growP fs 0 (given ⟨#[]⟩ 0 f) ⟨[], [], false⟩).2.full = true then ([], 2) else fromK (growP fs 0 (given ⟨#[]⟩ 0 f) ⟨[], [], false⟩).2.l (growP fs 0 (given ⟨#[]⟩ 0 f) ⟨[], [], false⟩).1 by
          unfold buildK; rw [if_neg (by rw [HVD.out, HCK.out]; simp), if_neg H24.out]; rfl)
        have h0s : sizeT ([] : List Nd) = 2 := by decide
        rw [h0s] at hsz5
        have hg5 := HG5.out
        have hzz : ((0 : Nat) : Int) = 0 := rfl
        simp only [hzz] at hg5 ⊢
        clear HG5
        generalize growP fs 0 (given ⟨#[]⟩ 0 f) ⟨[], [], false⟩ = r at *
        obtain ⟨rk, rs⟩ := r
        simp only at hg5 hsz5
        have hlen5 := size_len rs.l
        have HG6 := Lib.hid hg5
        clear hg5
        obtain ⟨f0, f1⟩ := one_ HG6.out.f
        have lf := blt_ HG6.out.f
        obtain ⟨m0, m1⟩ := one_ HG6.out.m
        have lm := blt_ HG6.out.m
        obtain ⟨r0, r1⟩ := one_ HRES.out
        have lr := blt_ HRES.out
        cases hfu : rs.full
        · rw [hfu] at f0
          have HV := Lib.hid (show buildK fs f = fromK rs.l rk by rw [HBK.out]; simp [hfu])
          clear hfu
          obtain ⟨S9, hm9, _⟩ := HG6.out.tb
          have HM9 := Lib.hid hm9
          clear hm9
          go_wp2_with fail
          refine (from_any S9 w3.heap.size w3.heap.size rs.l rk w5 HM9.out (by omega) HRG.out.1.rng HRG.out.2.1 (fun x hx => by have := (HSM.out x hx).1; omega)).mono ?_
          rintro e w6 ⟨v6, rfl, hn6, hb6⟩
          have HN6 := Lib.hid hn6
          have HR6 := Lib.hid (below_ hb6 HRES.out)
          have HB6 := Lib.hid (HB5.out.trans (hb6.mono HB5.out.size))
          obtain ⟨A6, c6, rfl, _⟩ := id hn6
          clear hn6 hb6 r0 r1 lr
          obtain ⟨r0, r1⟩ := one_ HR6.out
          have lr := blt_ HR6.out
          go_wp2_with fail
          refine bodyPost_ret (v := .tuple #[.agg #[.slice A6 (fromK rs.l rk).1.length c6], .int .i64 (fromK rs.l rk).2]) (by simp [results, Tryz.results12, go_sem, r0]) rfl ?_
          refine ⟨.slice A6 (fromK rs.l rk).1.length c6, by rw [HV.out], ?_, HB6.out.setCell (by simp; omega) _⟩
          rw [HV.out]
          refine (nds_ne HN6.out HR6.out).keep (by simp [World.setCell]) (fun b _ hb => set_oth hb) (fun _ _ _ => trivial)
        · rw [hfu] at f0
          have HV := Lib.hid (show buildK fs f = ([], 2) by rw [HBK.out]; simp [hfu])
          clear hfu
          go_wp2_with fail
          refine bodyPost_ret (v := .tuple #[.agg #[.slice none 0 0], .int .i64 2]) (by simp [results, Tryz.results12, go_sem, r0]) rfl ?_
          refine ⟨.slice none 0 0, by rw [HV.out], by rw [HV.out]; exact SliceAt.nil _ _ _ _, ?_⟩
          exact HB5.out.setCell (by simp; omega) _
    · have hck' : (checkF fs f != 0) = true := by simp [hck]
      have HV := Lib.hid (show buildK fs f = ([], 1) by unfold buildK; rw [if_pos (.inr hck)])
      clear hck
      go_wp2_with fail
      refine bodyPost_ret (v := .tuple #[.agg #[.slice none 0 0], .int .i64 1]) (by simp [results, Tryz.results12, go_sem, r0]) rfl ?_
      refine ⟨.slice none 0 0, by rw [HV.out], by rw [HV.out]; exact SliceAt.nil _ _ _ _, ?_⟩
      exact HBB.out.setCell (by simp; omega) _
end Go.Proofs.YtfajbcjcigajfaaGreatDoor
