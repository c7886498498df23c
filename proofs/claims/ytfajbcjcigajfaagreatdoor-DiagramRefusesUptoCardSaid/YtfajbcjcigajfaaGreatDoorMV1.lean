/- Part of the proof of a law of customhouselaw26: the texts V1. -/
import Derived.Laws.EntriesVeiled
import Derived.Test.YtfajbcjcigajfaaGreatDoorMG4G5
import Derived.Test.YtfajbcjcigajfaaGreatDoorMI2
import Derived.Test.YtfajbcjcigajfaaGreatDoorMP1P2P3
import Derived.Test.YtfajbcjcigajfaaGreatDoorMK8
/- The walk of the function that visits the nodes of a diagram. -/
namespace Go.Proofs.YtfajbcjcigajfaaGreatDoor
open Go.RowKit Go.Maps

theorem keyed3 : Keyed Tryz.prog 3 := int_keyed Tryz.underlying3
theorem wfI64 {a : Int} (h : I64 a) : (Lit.int .i64 a).wf = true := by
  unfold I64 at h
  have h1 : IntKind.i64.min = -9223372036854775808 := by decide
  have h2 : IntKind.i64.max = 9223372036854775807 := by decide
  simp [Lit.wf, h1, h2]
  omega
theorem keyInt {a : Int} (h : I64 a) : keyOf Tryz.prog 3 (.int .i64 a) = some (.int .i64 a) := keyOf_int_mk Tryz.underlying3 (wfI64 h)
theorem intInj : ∀ x y : Int, Value.int .i64 x = Value.int .i64 y → x = y := fun x y h => by injection h
def posM (o : List Int) : List (Int × Nat) := o.zipIdx
theorem posM_snoc (o : List Int) (k : Int) : posM (o ++ [k]) = posM o ++ [(k, o.length)] := by simp [posM, List.zipIdx_append]
theorem mget_zip (k : Int) : ∀ (o : List Int) (n : Nat), mget (o.zipIdx n) k = if k ∈ o then some (o.idxOf k + n) else none
  | [], n => by simp [mget]
  | x :: o, n => by
    have ih := mget_zip k o (n + 1)
    unfold mget at ih ⊢
    simp only [List.zipIdx_cons, List.find?_cons]
    by_cases h : x = k
    · subst h; simp
    · have h1 : decide (x = k) = false := by simp [h]
      have h2 : (x == k) = false := by simp [h]
      rw [h1]
      simp only []
      rw [ih]
      have : k ≠ x := fun e => h e.symm
      simp only [List.mem_cons, this, false_or, List.idxOf_cons, h2, cond_false]
      split
      · congr 1; omega
      · rfl
theorem mget_pos (o : List Int) (k : Int) : mget (posM o) k = if k ∈ o then some (o.idxOf k) else none := by
  unfold posM; rw [mget_zip]; rfl
/-- The boxes of the closure that visits. -/
structure VAt (w : World) (B bp bq bo bx bv bm br : Nat) (v : Value) (o om : List Int) : Prop where
  place : w.heap[bp]? = some (.cells #[.map (some bq)] 134 (0, 0))
  map : MapAt Tryz.prog 3 w bq (Value.int .i64) (fun i : Nat => .int .i64 (i : Int)) (posM om)
  order : w.heap[bo]? = some (.cells #[v] 28 (0, 0))
  row : OwnAt w B 3 1 IntR v o
  m : w.heap[bx]? = some (.cells #[.pointer (some ⟨bm, 0, none⟩)] 64 (0, 0))
  fn : w.heap[bv]? = some (.cells #[.func (Fn.func 96) #[] #[.pointer (some ⟨bp, 0, none⟩), .pointer (some ⟨bo, 0, none⟩), .pointer (some ⟨bx, 0, none⟩), .pointer (some ⟨bv, 0, none⟩)]] 135 (0, 0))
  res : w.heap[br]? = some (.cells #[.slice none 0 0] 34 (0, 0))
  lo : B ≤ bp ∧ B ≤ bq ∧ B ≤ bo
section
variable {w w1 : World} {B bp bq bo bx bv bm br : Nat} {v v1 : Value} {o om o1 : List Int}
theorem VAt.put (h : VAt w B bp bq bo bx bv bm br v o om) (hm : MapAt Tryz.prog 3 w1 bq (Value.int .i64) (fun i : Nat => .int .i64 (i : Int)) (posM o1)) (hg : w.grownBy w1 (some bq)) : VAt w1 B bp bq bo bx bv bm br v o o1 := by
  have hne : ∀ {k t : Nat} {c : Array Value} {fr : Nat × Nat}, w.heap[k]? = some (.cells c t fr) → w1.heap[k]? = some (.cells c t fr) := by
    intro k t c fr hk
    refine (hg.block k (blt_ hk) (fun e => ?_)).trans hk
    injection e with e
    subst e
    obtain ⟨es, cl, h1, _⟩ := h.map
    rw [hk] at h1; injection h1 with h1; cases h1
  refine ⟨hne h.place, hm, hne h.order, h.row.keep (fun k hk _ => ?_) (fun _ _ _ h => h), hne h.m, hne h.fn, hne h.res, h.lo⟩
  obtain ⟨cells, ho, _⟩ := h.row
  rcases ho.2 with ⟨rfl, _⟩ | ⟨g, cap, cur, rfl, _, hh, _⟩
  · cases hk
  · simp [Value.ownBlock] at hk
    subst hk
    rw [hh]; exact hne hh
theorem own_neT {w : World} {B : Nat} {v : Value} {l : List Int} (h : OwnAt w B 3 1 IntR v l) {k : Nat} {x : Obj} (hb : w.heap[k]? = some x) (ht : ∀ c fr, x ≠ .cells c 3 fr) : some k ≠ v.ownBlock := by
  intro e
  obtain ⟨cells, ho, _⟩ := h
  rcases ho.2 with ⟨rfl, _⟩ | ⟨g, cap, cur, rfl, _, hh, _⟩
  · cases e
  · simp [Value.ownBlock] at e
    subst e
    rw [hh] at hb; injection hb with hb
    exact ht _ _ hb.symm
theorem VAt.more (h : VAt w B bp bq bo bx bv bm br v o om) (hr : OwnAt w1 B 3 1 IntR v1 o1) (hg : w.grownBy w1 v.ownBlock) : VAt (w1.setCell ⟨bo, 0, none⟩ v1) B bp bq bo bx bv bm br v1 o1 om := by
  have hne : ∀ {k : Nat} {x : Obj}, w.heap[k]? = some x → (∀ c fr, x ≠ .cells c 3 fr) → w1.heap[k]? = some x := fun hk ht => (hg.block _ (blt_ hk) (own_neT h.row hk ht)).trans hk
  have hset : ∀ {k : Nat} {x : Obj}, k ≠ bo → w1.heap[k]? = some x → (w1.setCell ⟨bo, 0, none⟩ v1).heap[k]? = some x := fun hk hx => (set_oth hk).trans hx
  have hbo := hne h.order (by rintro c fr e; injection e with _ e; cases e)
  have hd : ∀ {k : Nat} {x : Obj}, w.heap[k]? = some x → (∀ c fr, x ≠ .cells c 28 fr) → k ≠ bo := fun hk ht e => by
    subst e; rw [h.order] at hk; injection hk with hk; exact ht _ _ hk.symm
  refine ⟨hset (hd h.place (by rintro c fr e; injection e with _ e; cases e)) (hne h.place (by rintro c fr e; injection e with _ e; cases e)), ?_, set_one hbo, hr.keep (fun k hk _ => ?_) (fun _ _ _ h => h), hset (hd h.m (by rintro c fr e; injection e with _ e; cases e)) (hne h.m (by rintro c fr e; injection e with _ e; cases e)), hset (hd h.fn (by rintro c fr e; injection e with _ e; cases e)) (hne h.fn (by rintro c fr e; injection e with _ e; cases e)), hset (hd h.res (by rintro c fr e; injection e with _ e; cases e)) (hne h.res (by rintro c fr e; injection e with _ e; cases e)), h.lo⟩
  · obtain ⟨es, cl, h1, h2⟩ := h.map
    exact ⟨es, cl, hset (hd h1 (by rintro c fr e; cases e)) (hne h1 (by rintro c fr e; cases e)), h2⟩
  · refine set_oth (fun e => ?_)
    subst e
    exact own_neT hr hbo (by rintro c fr e; injection e with _ e; cases e) hk.symm
theorem grown_below {B : Nat} {w0 : World} (hB : B ≤ w0.heap.size) (h : Below B w0 w) {r : Option Nat} (hg : w.grownBy w1 r) (hr : ∀ k, r = some k → B ≤ k) : Below B w0 w1 :=
  ⟨hg.os.trans h.os, hg.tape.trans h.tape, hg.output.trans h.output, Nat.le_trans h.size hg.size, fun k hk => (hg.block k (by have := h.size; omega) (fun e => by have := hr k e.symm; omega)).trans (h.block k hk)⟩
end
/-- The table's nodes, read. -/
theorem MkAt.nds {S : Nat → Prop} {w : World} {B0 bm : Nat} {l : List Nd} (h : MkAt S w B0 bm l) (hl : l.length ≤ 100000000) :
    ∃ A c atv, w.heap[bm]? = some (.cells #[.slice A l.length c, atv] 69 (0, 0)) ∧ NdsAt (fun b => b < w.heap.size) w (.slice A l.length c) l := by
  obtain ⟨v, atv, hm, ho, _⟩ := h.mem
  obtain ⟨A, c, rfl⟩ := ho.shape
  refine ⟨A, c, atv, hm, ho.slice (fun g c' hg hh => blt_ hh) (by unfold N44; omega) (fun x _ cs hx => NdR.keep hx (Nat.le_refl _) (fun _ _ _ => rfl) (fun b hb hs => hb))⟩
/-- A step of the visit keeps the order in order. -/
theorem visit_ord {l : List Nd} (hcl : ∀ k, InR l k → ∀ c ∈ (ndAt l k).kids, InR l c) : ∀ (f : Nat) (o : List Int) (k : Int), OrdOk l o → InR l k → OrdOk l (visitL l f o k) ∧ o.length ≤ (visitL l f o k).length := by
  intro f
  induction f with
  | zero => intro o k ho _; exact ⟨ho, Nat.le_refl _⟩
  | succ f ih =>
    intro o k ho hk
    rw [visitL]
    split
    · exact ⟨ho, Nat.le_refl _⟩
    · rename_i hm
      have hfold : ∀ (ks : List Int) (o2 : List Int), OrdOk l o2 → (∀ c ∈ ks, InR l c) → OrdOk l (ks.foldl (visitL l f) o2) ∧ o2.length ≤ (ks.foldl (visitL l f) o2).length := by
        intro ks
        induction ks with
        | nil => intro o2 h2 _; exact ⟨h2, Nat.le_refl _⟩
        | cons c ks ihk =>
          intro o2 h2 hr
          obtain ⟨e1, e2⟩ := ih o2 c h2 (hr c (by simp))
          obtain ⟨e3, e4⟩ := ihk _ e1 (fun c hc => hr c (by simp [hc]))
          exact ⟨e3, by simp only [List.foldl_cons]; omega⟩
      obtain ⟨e1, e2⟩ := hfold _ _ (ho.snoc hk hm) (hcl k hk)
      exact ⟨e1, by simp at e2; omega⟩
theorem fold_ord {l : List Nd} (hcl : ∀ k, InR l k → ∀ c ∈ (ndAt l k).kids, InR l c) (f : Nat) : ∀ (ks : List Int) (o2 : List Int), OrdOk l o2 → (∀ c ∈ ks, InR l c) → OrdOk l (ks.foldl (visitL l f) o2) ∧ o2.length ≤ (ks.foldl (visitL l f) o2).length
  | [], o2, h2, _ => ⟨h2, Nat.le_refl _⟩
  | c :: ks, o2, h2, hr => by
    obtain ⟨e1, e2⟩ := visit_ord hcl f o2 c h2 (hr c (by simp))
    obtain ⟨e3, e4⟩ := fold_ord hcl f ks _ e1 (fun c hc => hr c (by simp [hc]))
    exact ⟨e3, by simp only [List.foldl_cons]; omega⟩
set_option maxRecDepth 100000 in
set_option maxHeartbeats 4000000 in
theorem seek_any (S : Nat → Prop) (B0 bm : Nat) (l : List Nd) (w0 : World) (hM : MkAt S w0 B0 bm l) (hl : l.length ≤ 1000000) (hcl : ∀ k, InR l k → ∀ c ∈ (ndAt l k).kids, InR l c) (bp bq bo bx bv br : Nat) :
    ∀ (f : Nat) (o : List Int) (k : Int) (v : Value) (w : World), Below w0.heap.size w0 w → VAt w w0.heap.size bp bq bo bx bv bm br v o o → OrdOk l o → InR l k → l.length < f + o.length →
    Calls Tryz.prog 96 #[.int .i64 k, .pointer (some ⟨bp, 0, none⟩), .pointer (some ⟨bo, 0, none⟩), .pointer (some ⟨bx, 0, none⟩), .pointer (some ⟨bv, 0, none⟩)] w fun e w' => e = .returned (.tuple #[]) ∧ ∃ v', VAt w' w0.heap.size bp bq bo bx bv bm br v' (visitL l f o k) (visitL l f o k) ∧ Below w0.heap.size w0 w' := by
  obtain ⟨AT, cT, atv, hmb, hnd⟩ := hM.nds (by omega)
  have HMB := Lib.hid hmb
  have HND := Lib.hid hnd
  have HCL := Lib.hid hcl
  have lmb := blt_ hmb
  clear hM hmb hnd hcl
  intro f
  induction f with
  | zero => intro o k v w _ _ ho _ hf; have := ho.len; omega
  | succ f ih =>
    intro o k v w hb hv ho hk hf
    obtain ⟨kn, rfl⟩ : ∃ kn : Nat, k = kn := ⟨k.toNat, by have := hk.1; omega⟩
    have hknl : kn < l.length := by have := hk.2; omega
    have hkni : (kn : Int) < (l.length : Int) := by omega
    have hki : I64 (kn : Int) := by have := hk.1; have := hk.2; unfold I64; omega
    have hol := ho.len
    have HV := Lib.hid hv
    have HB := Lib.hid hb
    have HO := Lib.hid ho
    have HK := Lib.hid hk
    obtain ⟨p0, p1⟩ := one_ hv.place
    have lp := blt_ hv.place
    have hlk := MapAt.look hv.map keyed3 Tryz.underlying134 intInj (keyInt hki) (zero3 _) true
    rw [mget_pos] at hlk
    by_cases hm : (kn : Int) ∈ o
    · rw [if_pos hm] at hlk
      have HR := Lib.hid (show visitL l (f + 1) o kn = o by rw [visitL, if_pos hm])
      simp only [if_true] at hlk
      clear hv hb ho hk hm
      go_enter Tryz.func96, Tryz.ntmps96
      go_wp2_with fail
      refine bodyPost_ret (results_none rfl _ _ _) rfl ?_
      exact ⟨rfl, v, by rw [HR.out]; exact HV.out, HB.out⟩
    · rw [if_neg hm] at hlk
      simp only [if_true] at hlk
      have HR := Lib.hid (show visitL l (f + 1) o kn = (ndAt l kn).kids.foldl (visitL l f) (o ++ [(kn : Int)]) by rw [visitL, if_neg hm])
      have HPUT := Lib.hid (MapAt.put hv.map keyed3 Tryz.underlying134 intInj (keyInt hki) (by rw [mget_pos, if_neg hm]) o.length)
      have HNM := Lib.hid hm
      obtain ⟨o1, ho1⟩ : ∃ o1, o1 = o ++ [(kn : Int)] := ⟨_, rfl⟩
      have HO1 := Lib.hid ho1
      have HO1L := Lib.hid (show o1.length = o.length + 1 by rw [ho1]; simp)
      rw [← ho1] at HR
      clear ho1
      obtain ⟨q0, q1⟩ := one_ hv.order
      have lq := blt_ hv.order
      obtain ⟨A, c, rfl⟩ := hv.row.shape
      clear hv hb ho hk hm
      go_enter Tryz.func96, Tryz.ntmps96
      go_wp2_with (at_mapUpdate; refine put_op rfl 134 (.tmp 17) (.tmp 18) (.tmp 20) rfl rfl rfl rfl HPUT.out ?_)
      intro w6 hmap hgr
      rw [← posM_snoc, ← HO1.out] at hmap
      have HV6 := Lib.hid (HV.out.put hmap hgr)
      have HB6 := Lib.hid (grown_below (Nat.le_refl _) HB.out hgr (fun k e => by injection e with e; rw [← e]; exact HV.out.lo.2.1))
      clear hmap hgr p0 p1 q0 q1 lp lq
      obtain ⟨q0, q1⟩ := one_ HV6.out.order
      have lq := blt_ HV6.out.order
      go_wp2_with (at_builtin; refine app_one (R := IntR) (W := w6) w0.heap.size rfl (.tmp 21) (.tmp 23) 28 3 (.int .i64 0) 1 8 rfl Tryz.underlying28 info3' rfl (by decide) (by decide) (.slice A o.length c) o kn [.int .i64 kn] rfl w6.heap.size rfl rfl rfl (by simp [Value.oneCell']) HV6.out.row HB6.out.size (by omega) ?_)
      intro v7 w7 ho7 hg7 _
      have ho7 := ho7 IntR (fun _ _ _ h => h) ⟨rfl, hki⟩
      rw [← HO1.out] at ho7
      have hb7 := grown_below (Nat.le_refl _) HB6.out hg7 (fun k e => (row_type HV6.out.row e).1)
      obtain ⟨A7, c7, rfl⟩ := ho7.shape
      have HV8 := Lib.hid (HV6.out.more ho7 hg7)
      have HB8 := Lib.hid (hb7.setCell (p := ⟨bo, 0, none⟩) HV6.out.lo.2.2 (.slice A7 o1.length c7))
      have HO7 := Lib.hid ((hg7.block bo (blt_ HV6.out.order) (own_neT HV6.out.row HV6.out.order (by rintro c fr e; injection e with _ e; cases e))).trans HV6.out.order)
      clear ho7 hg7 hb7 q0 q1 lq
      obtain ⟨q0, q1⟩ := one_ HO7.out
      have lq := blt_ HO7.out
      obtain ⟨x0, x1⟩ := one_ HV8.out.m
      have lx := blt_ HV8.out.m
      have HM8 := Lib.hid ((HB8.out.block bm lmb).trans HMB.out)
      obtain ⟨m0, m1, mf⟩ := two_ HM8.out
      have lm := blt_ HM8.out
      obtain ⟨b, of, A2, c2, A3, c3, rfl, _, hbl, hN, e0, e1, e2, e3⟩ := nd_cells HND.out hknl
      have e38 := (HB8.out.cell (p := ⟨b, of + kn * 4 + 3, none⟩) hbl).trans e3
      have HNK := Lib.hid hN.kids
      have hnk : ndAt l (kn : Int) = l[kn] := by unfold ndAt; rw [Int.toNat_natCast, List.getD_eq_getElem?_getD, List.getElem?_eq_getElem hknl]; rfl
      have HKR := Lib.hid (show ∀ c ∈ l[kn].kids, InR l c by have := HCL.out kn HK.out; rwa [hnk] at this)
      rw [hnk] at HR
      generalize l[kn].kids = ks at *
      have hksl := SliceAt.len HNK.out
      unfold N44 at hksl
      have HOS := Lib.hid (show OrdOk l o1 by rw [HO1.out]; exact HO.out.snoc HK.out HNM.out)
      clear hN e0 e1 e2 e3 hnk
      go_wp2_with fail
      clear m0 m1 mf x0 x1 lx lm e38
      go_loopw [35] (fun v wr => ∃ (j : Nat) (vj : Value), j ≤ ks.length ∧ v = .int .i64 j ∧ Hid (VAt wr w0.heap.size bp bq bo bx bv bm br vj ((ks.take j).foldl (visitL l f) o1) ((ks.take j).foldl (visitL l f) o1)) ∧ Hid (Below w0.heap.size w0 wr)) (fun v _ => ks.length - (intOf v).toNat)
      case atStart => exact ⟨0, _, Nat.zero_le _, rfl, HV8, HB8⟩
      case round =>
        clear HV8 HB8
        obtain ⟨j, vj, hj, rfl, HV8, HB8⟩ := hrel
        by_cases hlt : j < ks.length
        · obtain ⟨b2, o2, rfl, _, hb2, k0, ki⟩ := int_cell HNK.out hlt
          have k08 := (HB8.out.cell (p := ⟨b2, o2 + j, none⟩) hb2).trans k0
          have HMEM := Lib.hid (HKR.out ks[j] (List.getElem_mem hlt))
          obtain ⟨e1, e2⟩ := fold_ord HCL.out f (ks.take j) o1 HOS.out (fun c hc => HKR.out c (List.mem_of_mem_take hc))
          have HE1 := Lib.hid e1
          have HE2 := Lib.hid (show l.length < f + ((ks.take j).foldl (visitL l f) o1).length by have := HO1L.out; omega)
          have HT := Lib.hid (show (ks.take (j + 1)).foldl (visitL l f) o1 = visitL l f ((ks.take j).foldl (visitL l f) o1) ks[j] by
            rw [List.take_succ_eq_append_getElem hlt, List.foldl_append]; rfl)
          generalize ks[j] = c at *
          generalize (ks.take j).foldl (visitL l f) o1 = oj at *
          clear k0 e1 e2
          obtain ⟨g0, g1⟩ := one_ HV8.out.fn
          have lg := blt_ HV8.out.fn
          have hjs : (j : Int) < (ks.length : Int) := by omega
          go_wp2_with fail
          refine (ih oj c vj wr HB8.out HV8.out HE1.out HMEM.out HE2.out).mono ?_
          rintro e w9 ⟨rfl, v9, hv9, hb9⟩
          rw [← HT.out] at hv9
          have HV9 := Lib.hid hv9
          have HB9 := Lib.hid hb9
          clear hv9 hb9 HV8 HB8
          go_wp2_with fail
          go_roundw
          case rel => exact ⟨j + 1, v9, by omega, by go_num, HV9, HB9⟩
          case measure => simp [intOf]; omega
        · obtain rfl : j = ks.length := by omega
          have hv := HV8.out
          rw [List.take_length, ← HR.out] at hv
          have HV9 := Lib.hid hv
          clear hv HV8
          go_wp2_with fail
          go_end0
          exact ⟨rfl, vj, HV9.out, HB8.out⟩
end Go.Proofs.YtfajbcjcigajfaaGreatDoor
