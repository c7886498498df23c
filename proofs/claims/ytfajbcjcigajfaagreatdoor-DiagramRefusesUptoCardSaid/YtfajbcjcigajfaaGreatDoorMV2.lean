/- Part of the proof of a law of customhouselaw26: the texts V2. -/
import Derived.OwnWalk
import Derived.Laws.ResultCell
import Derived.Deep.RegionHeld3
import Derived.Test.YtfajbcjcigajfaaGreatDoorMV1
/- The walk of 'from': the diagram that begins with a node. -/
namespace Go.Proofs.YtfajbcjcigajfaaGreatDoor
open Go.RowKit Go.Maps

theorem cloneInts_any (S : Nat → Prop) (xs : List Int) (v : Value) (w : World) (h : IntsAt S w v xs) (hl : xs.length ≤ 10000000) :
    Calls Tryz.prog 97 #[v] w fun e w' => ∃ v', e = .returned v' ∧ OwnAt w' w.heap.size 3 1 IntR v' xs ∧ Below w.heap.size w w' := by
  have hI := ints_i64 h
  have hrow : ∀ cells, cells = xs.map (Value.int .i64) → Rows_ IntR 1 cells xs := by
    rintro cells rfl
    refine ⟨by simp, fun j x hx => ⟨[.int .i64 x], rfl, ⟨rfl, hI x (List.mem_of_getElem? hx)⟩, fun i u hu => ?_⟩⟩
    have : i = 0 := by have := (List.getElem?_eq_some_iff.1 hu).1; simpa using this
    subst this
    simp only [List.getElem?_cons_zero] at hu
    rw [Nat.mul_one, Nat.add_zero, List.getElem?_map, hx]
    exact hu
  obtain ⟨A, c, rfl⟩ := ints_shape h
  cases A with
  | none =>
    rcases Nat.eq_zero_or_pos xs.length with h0 | hp
    · have : xs = [] := List.eq_nil_of_length_eq_zero h0
      subst this
      refine (Tryz.slices_Clone_int_nil 0 c w).mono ?_
      rintro e w' ⟨rfl, rfl⟩
      exact ⟨_, rfl, OwnAt.nil _ _ _ _ _, Below.refl _ _⟩
    · obtain ⟨b, o, h1, _⟩ := ints_row h hp; cases h1
  | some a =>
    rcases Nat.eq_zero_or_pos xs.length with h0 | hp
    · have : xs = [] := List.eq_nil_of_length_eq_zero h0
      subst this
      refine (Tryz.slices_Clone_int_zero a c w).mono ?_
      rintro e w' ⟨v', rfl, h1, _, h2⟩
      exact ⟨v', rfl, ⟨[], h1, Rows_.nil _ _⟩, h2⟩
    · obtain ⟨b, o, h1, _, _, _, h2⟩ := ints_row h hp
      injection h1 with h1
      subst h1
      refine (Tryz.slices_Clone_int b o xs.length c xs w (Nat.le_refl _) (by omega) h2).mono ?_
      rintro e w' ⟨v', rfl, h3, _, h4⟩
      rw [List.take_length] at h3
      exact ⟨v', rfl, ⟨_, h3, hrow _ rfl⟩, h4⟩
theorem VAt.below {w w1 : World} {B bp bq bo bx bv bm br : Nat} {v : Value} {o om : List Int} (h : VAt w B bp bq bo bx bv bm br v o om) (hb : Below w.heap.size w w1) : VAt w1 B bp bq bo bx bv bm br v o om :=
  ⟨below_ hb h.place, h.map.below hb, below_ hb h.order, h.row.keep (fun k _ hk => hb.block k hk) (fun _ _ _ h => h), below_ hb h.m, below_ hb h.fn, below_ hb h.res, h.lo⟩
theorem MapAt.made' {K V : Type} {P : Program} {kt : TypeId} {emb : K → Value} {emv : V → Value} (w : World) {k : Nat} (h : w.heap.size = k) : MapAt P kt (w.alloc (.map #[] 0)) k emb emv ([] : List (K × V)) := h ▸ MapAt.made w
theorem visit_full {l : List Nd} (hcl : ∀ k, InR l k → ∀ c ∈ (ndAt l k).kids, InR l c) : ∀ (f : Nat) (o : List Int) (k : Int), OrdOk l o → InR l k → l.length < f + o.length →
    k ∈ visitL l f o k ∧ o ⊆ visitL l f o k ∧ ∀ s ∈ visitL l f o k, s ∈ o ∨ ∀ c ∈ (ndAt l s).kids, c ∈ visitL l f o k := by
  intro f
  induction f with
  | zero => intro o k ho _ hf; have := ho.len; omega
  | succ f ih =>
    intro o k ho hk hf
    rw [visitL]
    split
    · rename_i hm; exact ⟨hm, fun _ h => h, fun s hs => .inl hs⟩
    · rename_i hm
      have hfold : ∀ (ks : List Int) (o2 : List Int), OrdOk l o2 → (∀ c ∈ ks, InR l c) → l.length < f + o2.length → (∀ c ∈ ks, c ∈ ks.foldl (visitL l f) o2) ∧ o2 ⊆ ks.foldl (visitL l f) o2 ∧ ∀ s ∈ ks.foldl (visitL l f) o2, s ∈ o2 ∨ ∀ c ∈ (ndAt l s).kids, c ∈ ks.foldl (visitL l f) o2 := by
        intro ks
        induction ks with
        | nil => intro o2 _ _ _; exact ⟨fun c hc => (by cases hc), fun _ h => h, fun s hs => .inl hs⟩
        | cons c ks ihk =>
          intro o2 h2 hr hl
          obtain ⟨a1, a2, a3⟩ := ih o2 c h2 (hr c (by simp)) hl
          obtain ⟨e1, e2⟩ := visit_ord hcl f o2 c h2 (hr c (by simp))
          obtain ⟨b1, b2, b3⟩ := ihk _ e1 (fun c hc => hr c (by simp [hc])) (by omega)
          simp only [List.foldl_cons]
          refine ⟨fun y hy => ?_, fun y hy => b2 (a2 hy), fun s hs => ?_⟩
          · rcases List.mem_cons.1 hy with rfl | hy
            · exact b2 a1
            · exact b1 y hy
          · rcases b3 s hs with h | h
            · rcases a3 s h with h | h
              · exact .inl h
              · exact .inr (fun y hy => b2 (h y hy))
            · exact .inr h
      obtain ⟨a1, a2, a3⟩ := hfold _ _ (ho.snoc hk hm) (hcl k hk) (by simp; omega)
      refine ⟨a2 (by simp), fun y hy => a2 (by simp [hy]), fun s hs => ?_⟩
      rcases a3 s hs with h | h
      · rcases List.mem_append.1 h with h | h
        · exact .inl h
        · rw [List.mem_singleton.1 h]; exact .inr a1
      · exact .inr h
/-- The diagram that is being written: its row, whose first elements stand. -/
structure FAt (S : Nat → Prop) (w wr : World) (bout g n : Nat) (R : List Nat) (L : List Nd) : Prop where
  out : wr.heap[bout]? = some (.cells #[.slice (some ⟨g, 0, none⟩) n n] 34 (0, 0))
  row : OwnAt wr w.heap.size 55 4 (NdR (fun b => S b ∨ b ∈ R) wr) (.slice (some ⟨g, 0, none⟩) n n) L
  own : ∀ b ∈ R, b < wr.heap.size ∧ ∃ c, wr.heap[b]? = some (.cells c 3 (0, 0))
  len : L.length = n
theorem FAt.below {S : Nat → Prop} {w wr w1 : World} {bout g n : Nat} {R : List Nat} {L : List Nd} (h : FAt S w wr bout g n R L) (hb : Below wr.heap.size wr w1) : FAt S w w1 bout g n R L :=
  ⟨below_ hb h.out, h.row.keep (fun k _ hk => hb.block k hk) (fun x _ cs hx => NdR.keep hx hb.size (Agree.of_below hb) (fun _ _ h => h)), fun b hb' => by
    obtain ⟨h1, c, h2⟩ := h.own b hb'
    exact ⟨Nat.lt_of_lt_of_le h1 hb.size, c, below_ hb h2⟩, h.len⟩
/-- What from answers. -/
def fromK (l : List Nd) (r : Int) : List Nd × Int := if 4000 < (visitL l (l.length + 1) [] r).length then ([], 2) else (fromL l r, 0)
def outL (l : List Nd) (o : List Int) (i : Nat) : List Nd := (serL l o).take i ++ List.replicate (o.length - i) nd0
theorem outL_set {l : List Nd} {o : List Int} {i : Nat} {k : Int} {x : Nd} (hi : o[i]? = some k) (hx : ndAt l k = x) : (outL l o i).set i { x with kids := x.kids.map (posI o) } = outL l o (i + 1) := by
  have hlt := (List.getElem?_eq_some_iff.1 hi).1
  have hs : (serL l o).length = o.length := by simp [serL]
  have hsi : (serL l o)[i]? = some { x with kids := x.kids.map (posI o) } := by
    unfold serL; rw [List.getElem?_map, hi]; simp [hx]
  unfold outL
  rw [List.set_append_right _ _ (by simp; omega), take_snoc hsi, List.append_assoc]
  congr 1
  rw [List.length_take, hs, show i - min i o.length = 0 by omega, show o.length - i = (o.length - (i + 1)) + 1 by omega, List.replicate_succ]
  rfl
theorem four_set (wr : World) (g i : Nat) (a b c d : Value) {k : Nat} (hk : k ≠ g) : ((((wr.setCell ⟨g, i * 4, none⟩ a).setCell ⟨g, i * 4 + 1, none⟩ b).setCell ⟨g, i * 4 + 2, none⟩ c).setCell ⟨g, i * 4 + 3, none⟩ d).heap[k]? = wr.heap[k]? :=
  (((Below.heap_setCell _ ⟨g, i * 4 + 3, none⟩ d k hk).trans (Below.heap_setCell _ ⟨g, i * 4 + 2, none⟩ c k hk)).trans (Below.heap_setCell _ ⟨g, i * 4 + 1, none⟩ b k hk)).trans (Below.heap_setCell _ ⟨g, i * 4, none⟩ a k hk)
theorem row55 {w : World} {B g n c : Nat} {R : Nd → List Value → Prop} {L : List Nd} (h : OwnAt w B 55 4 R (.slice (some ⟨g, 0, none⟩) n c) L) : B ≤ g ∧ ∃ cur, w.heap[g]? = some (.cells cur 55 (0, 0)) := by
  obtain ⟨cells, ho, _⟩ := h
  rcases ho.2 with ⟨h1, _⟩ | ⟨g', cap, cur, h1, hB, hh, _⟩
  · cases h1
  · simp only [Value.slice.injEq, Option.some.injEq, Addr.mk.injEq] at h1
    obtain ⟨⟨rfl, _⟩, _, _⟩ := h1
    exact ⟨hB, cur, hh⟩
theorem VAt.put4 {w : World} {B bp bq bo bx bv bm br : Nat} {v : Value} {o om : List Int} (h : VAt w B bp bq bo bx bv bm br v o om) {B2 g n c : Nat} {R : Nd → List Value → Prop} {L : List Nd} (hr : OwnAt w B2 55 4 R (.slice (some ⟨g, 0, none⟩) n c) L) (i : Nat) (a b p q : Value) :
    VAt ((((w.setCell ⟨g, i * 4, none⟩ a).setCell ⟨g, i * 4 + 1, none⟩ b).setCell ⟨g, i * 4 + 2, none⟩ p).setCell ⟨g, i * 4 + 3, none⟩ q) B bp bq bo bx bv bm br v o om := by
  obtain ⟨_, cur, hg⟩ := row55 hr
  have hne : ∀ {k : Nat} {x : Obj}, w.heap[k]? = some x → (∀ c fr, x ≠ .cells c 55 fr) → ((((w.setCell ⟨g, i * 4, none⟩ a).setCell ⟨g, i * 4 + 1, none⟩ b).setCell ⟨g, i * 4 + 2, none⟩ p).setCell ⟨g, i * 4 + 3, none⟩ q).heap[k]? = some x := fun hk ht => (four_set w g i a b p q (fun e => by subst e; rw [hg] at hk; injection hk with hk; exact ht _ _ hk.symm)).trans hk
  refine ⟨hne h.place (by rintro c fr e; injection e with _ e; cases e), ?_, hne h.order (by rintro c fr e; injection e with _ e; cases e), h.row.keep (fun k hk _ => ?_) (fun _ _ _ h => h), hne h.m (by rintro c fr e; injection e with _ e; cases e), hne h.fn (by rintro c fr e; injection e with _ e; cases e), hne h.res (by rintro c fr e; injection e with _ e; cases e), h.lo⟩
  · obtain ⟨es, cl, h1, h2⟩ := h.map
    exact ⟨es, cl, hne h1 (by rintro c fr e; cases e), h2⟩
  · refine four_set w g i a b p q (fun e => ?_)
    subst e
    obtain ⟨_, c2, h2⟩ := row_type h.row hk
    rw [hg] at h2; injection h2 with h2; injection h2 with _ h2; cases h2
theorem FAt.put {w wr : World} {bout g n : Nat} {R R4 : List Nat} {L : List Nd} (h : FAt (fun b => b < w.heap.size) w wr bout g n R L) {i : Nat} (hi : i < n) {y : Nd} {v2 v3 : Value} (hg : w.heap.size ≤ g) (hf : I64 y.fact)
    (hc : IntsAt (fun b => b < w.heap.size ∨ b ∈ R4 ++ R) wr v2 y.cuts) (hk : IntsAt (fun b => b < w.heap.size ∨ b ∈ R4 ++ R) wr v3 y.kids) (hR4 : ∀ b ∈ R4, b < wr.heap.size ∧ ∃ c, wr.heap[b]? = some (.cells c 3 (0, 0))) :
    FAt (fun b => b < w.heap.size) w ((((wr.setCell ⟨g, i * 4, none⟩ (.bool y.leaf)).setCell ⟨g, i * 4 + 1, none⟩ (.int .i64 y.fact)).setCell ⟨g, i * 4 + 2, none⟩ v2).setCell ⟨g, i * 4 + 3, none⟩ v3) bout g n (R4 ++ R) (L.set i y) := by
  obtain ⟨_, cur, hgb⟩ := row55 h.row
  have hsz : ((((wr.setCell ⟨g, i * 4, none⟩ (.bool y.leaf)).setCell ⟨g, i * 4 + 1, none⟩ (.int .i64 y.fact)).setCell ⟨g, i * 4 + 2, none⟩ v2).setCell ⟨g, i * 4 + 3, none⟩ v3).heap.size = wr.heap.size := by simp [World.setCell]
  have hne : ∀ {k : Nat} {x : Obj}, wr.heap[k]? = some x → (∀ c fr, x ≠ .cells c 55 fr) → k ≠ g := fun hk ht e => by subst e; rw [hgb] at hk; injection hk with hk; exact ht _ _ hk.symm
  have hown : ∀ b ∈ R4 ++ R, b < wr.heap.size ∧ ∃ c, wr.heap[b]? = some (.cells c 3 (0, 0)) := fun b hb => (List.mem_append.1 hb).elim (hR4 b) (h.own b)
  have hag : ∀ S' : Nat → Prop, (∀ b, S' b → b < w.heap.size ∨ b ∈ R4 ++ R) → Agree S' wr ((((wr.setCell ⟨g, i * 4, none⟩ (.bool y.leaf)).setCell ⟨g, i * 4 + 1, none⟩ (.int .i64 y.fact)).setCell ⟨g, i * 4 + 2, none⟩ v2).setCell ⟨g, i * 4 + 3, none⟩ v3) := by
    intro S' hS' b _ hs
    refine four_set wr g i _ _ _ _ ?_
    rcases hS' b hs with h1 | h1
    · omega
    · obtain ⟨_, c, h2⟩ := hown b h1
      exact hne h2 (by rintro c fr e; injection e with _ e; cases e)
  have hc' := hc.keep (S2 := fun b => b < w.heap.size ∨ b ∈ R4 ++ R) (by rw [hsz]; exact Nat.le_refl _) (hag _ (fun _ h => h)) (fun _ _ h => h)
  have hk' := hk.keep (S2 := fun b => b < w.heap.size ∨ b ∈ R4 ++ R) (by rw [hsz]; exact Nat.le_refl _) (hag _ (fun _ h => h)) (fun _ _ h => h)
  have hrow := h.row.keep (w' := wr) (R' := NdR (fun b => b < w.heap.size ∨ b ∈ R4 ++ R) ((((wr.setCell ⟨g, i * 4, none⟩ (.bool y.leaf)).setCell ⟨g, i * 4 + 1, none⟩ (.int .i64 y.fact)).setCell ⟨g, i * 4 + 2, none⟩ v2).setCell ⟨g, i * 4 + 3, none⟩ v3)) (fun _ _ _ => rfl) (fun x _ cs hx => NdR.keep hx (by rw [hsz]; exact Nat.le_refl _) (hag _ (fun b hb => hb.imp id (fun hb => List.mem_append_right _ hb))) (fun b _ hb => hb.imp id (fun hb => List.mem_append_right _ hb)))
  have hlt : i < L.length := by rw [h.len]; exact hi
  have hz := List.getElem?_eq_getElem hlt
  generalize L[i] = z at hz
  have s1 := own_set hrow (i := 0) (y := ⟨y.leaf, z.fact, z.cuts, z.kids⟩) hz (by decide) (.bool y.leaf) (fun cs hl ⟨a, b, e, h1, h2, h3⟩ => by subst e; exact ⟨a, b, rfl, h1, h2, h3⟩)
  have s2 := own_set s1 (i := 1) (x := ⟨y.leaf, z.fact, z.cuts, z.kids⟩) (y := ⟨y.leaf, y.fact, z.cuts, z.kids⟩) (List.getElem?_set_self hlt) (by decide) (.int .i64 y.fact) (fun cs hl ⟨a, b, e, h1, h2, h3⟩ => by subst e; exact ⟨a, b, rfl, hf, h2, h3⟩)
  rw [List.set_set] at s2
  have s3 := own_set s2 (i := 2) (x := ⟨y.leaf, y.fact, z.cuts, z.kids⟩) (y := ⟨y.leaf, y.fact, y.cuts, z.kids⟩) (List.getElem?_set_self hlt) (by decide) v2 (fun cs hl ⟨a, b, e, h1, h2, h3⟩ => by subst e; exact ⟨v2, b, rfl, hf, hc', h3⟩)
  rw [List.set_set] at s3
  have s4 := own_set s3 (i := 3) (x := ⟨y.leaf, y.fact, y.cuts, z.kids⟩) (y := y) (List.getElem?_set_self hlt) (by decide) v3 (fun cs hl ⟨a, b, e, h1, h2, h3⟩ => by subst e; exact ⟨a, v3, rfl, hf, h2, hk'⟩)
  rw [List.set_set] at s4
  refine ⟨(four_set wr g i _ _ _ _ (hne h.out (by rintro c fr e; injection e with _ e; cases e))).trans h.out, by simpa using s4, fun b hb => ?_, by rw [List.length_set, h.len]⟩
  obtain ⟨h1, c, h2⟩ := hown b hb
  exact ⟨by rw [hsz]; exact h1, c, (four_set wr g i _ _ _ _ (hne h2 (by rintro c fr e; injection e with _ e; cases e))).trans h2⟩
theorem zero_rows {S : Nat → Prop} {w W : World} {B n : Nat} {v : Value} (h : w.ownsRow B 55 4 v n (madeCells (Value.agg #[.bool false, .int .i64 0, .slice none 0 0, .slice none 0 0]).cells (n * 4)).toList) : OwnAt w B 55 4 (NdR S W) v (List.replicate n nd0) := by
  refine ⟨_, by simpa using h, ?_, fun j x hx => ?_⟩
  · rw [Array.length_toList, size_madeCells]; simp
  · have hj : j < n := by have := (List.getElem?_eq_some_iff.1 hx).1; simpa using this
    have hx' : x = nd0 := by rw [List.getElem?_replicate, if_pos hj] at hx; injection hx with hx; exact hx.symm
    subst hx'
    refine ⟨[.bool false, .int .i64 0, .slice none 0 0, .slice none 0 0], rfl, ⟨_, _, rfl, by unfold I64 nd0; simp, SliceAt.nil _ _ _ _, SliceAt.nil _ _ _ _⟩, fun i u hu => ?_⟩
    have hi : i < 4 := (List.getElem?_eq_some_iff.1 hu).1
    have hlt : j * 4 + i < n * 4 := by omega
    rw [Array.getElem?_toList, madeCells, Array.getElem?_map, Array.getElem?_range, if_pos hlt]
    simp only [Option.map_some]
    have hm : (j * 4 + i) % 4 = i := by omega
    have hc : (Value.agg #[.bool false, .int .i64 0, .slice none 0 0, .slice none 0 0]).cells = #[.bool false, .int .i64 0, .slice none 0 0, .slice none 0 0] := by kernel_rfl
    rw [hc]
    simp only [List.size_toArray, List.length_cons, List.length_nil, Nat.zero_add, Nat.reduceAdd, hm]
    rw [← hu]
    rcases (show i = 0 ∨ i = 1 ∨ i = 2 ∨ i = 3 by omega) with rfl | rfl | rfl | rfl <;> rfl
set_option maxRecDepth 100000 in
set_option maxHeartbeats 4000000 in
theorem from_any (S : Nat → Prop) (B0 bm : Nat) (l : List Nd) (r : Int) (w : World) (hM : MkAt S w B0 bm l) (hl : l.length ≤ 1000000) (hcl : ∀ k, InR l k → ∀ c ∈ (ndAt l k).kids, InR l c) (hr : InR l r) (hkl : ∀ x ∈ l, x.kids.length ≤ 1000000) :
    Calls Tryz.prog 47 #[.pointer (some ⟨bm, 0, none⟩), .int .i64 r] w fun e w' => ∃ v, e = .returned (.tuple #[.agg #[v], .int .i64 (fromK l r).2]) ∧ NdsAt (fun _ => True) w' v (fromK l r).1 ∧ Below w.heap.size w w' := by
  have hmk : ∀ w, (Instr.makeMap 134 none).run Tryz.prog w = .ok (.map (some w.heap.size)) (w.alloc (.map #[] 0)) := fun w => by kernel_rfl
  have HM := Lib.hid hM
  have HCL := Lib.hid hcl
  have HR := Lib.hid hr
  have HKL := Lib.hid hkl
  clear hM hcl hr hkl
  go_enter Tryz.func47, Tryz.ntmps47
  go_wp2_with fail
  refine (seek_any S B0 bm l w HM.out hl HCL.out (w.heap.size + 1 + 1 + 1) (w.heap.size + 1 + 1) (w.heap.size + 1 + 1 + 1 + 1) w.heap.size (w.heap.size + 1 + 1 + 1 + 1 + 1) (w.heap.size + 1) (l.length + 1) [] r (.slice none 0 0) _ ((((((((Below.refl _ _).alloc (Nat.le_refl _) _).alloc (by simp) _).alloc (by simp; omega) _).alloc (by simp; omega) _).alloc (by simp; omega) _).alloc (by simp; omega) _))
    ⟨old_ (old_ (alk _ _ (by simp))), (((MapAt.made' _ (by simp)).alloc _).alloc _).alloc _, old_ (alk _ _ (by simp)), OwnAt.nil _ _ _ _ _, old_ (old_ (old_ (old_ (old_ (alk _ _ rfl))))), alk _ _ (by simp), old_ (old_ (old_ (old_ (alk _ _ (by simp))))), by omega⟩ (OrdOk.nil l) HR.out (by simp)).mono ?_
  rintro e w2 ⟨rfl, v2, hv2, hb2⟩
  have HFK := Lib.hid (show fromK l r = if 4000 < (visitL l (l.length + 1) [] r).length then ([], 2) else (serL l (visitL l (l.length + 1) [] r), 0) from rfl)
  obtain ⟨ho1, _⟩ := visit_ord HCL.out (l.length + 1) [] r (OrdOk.nil l) HR.out
  have HOO := Lib.hid ho1
  have HCO := Lib.hid (show ∀ s ∈ visitL l (l.length + 1) [] r, ∀ c ∈ (ndAt l s).kids, c ∈ visitL l (l.length + 1) [] r from fun s hs c hc => by
    obtain ⟨_, _, h3⟩ := visit_full HCL.out (l.length + 1) [] r (OrdOk.nil l) HR.out (by simp)
    rcases h3 s hs with h | h
    · cases h
    · exact h c hc)
  generalize visitL l (l.length + 1) [] r = o at *
  have hol := ho1.len
  clear ho1
  obtain ⟨A2, c2, rfl⟩ := hv2.row.shape
  have HV := Lib.hid hv2
  have HB := Lib.hid hb2
  clear hv2 hb2
  obtain ⟨o0, o1⟩ := one_ HV.out.order
  have lo := blt_ HV.out.order
  obtain ⟨r0, r1⟩ := one_ HV.out.res
  have lr := blt_ HV.out.res
  by_cases h4 : 4000 < o.length
  · have h4' : (4000 : Int) < (o.length : Int) := by omega
    have HFK2 := Lib.hid (show fromK l r = ([], 2) by rw [HFK.out, if_pos h4])
    go_wp2_with fail
    refine bodyPost_ret (v := .tuple #[.agg #[.slice none 0 0], .int .i64 2]) (by simp [results, Tryz.results47, go_sem, r0]) rfl ?_
    refine ⟨.slice none 0 0, by rw [HFK2.out], by rw [HFK2.out]; exact SliceAt.nil _ _ _ _, ?_⟩
    exact HB.out.setCell (by simp) _
  · have h4' : ¬ (4000 : Int) < (o.length : Int) := by omega
    have HFK2 := Lib.hid (show fromK l r = (serL l o, 0) by rw [HFK.out, if_neg h4])
    obtain ⟨i0, hi0, hzz⟩ := Option.map_eq_some_iff.1 info55
    simp only [Prod.mk.injEq] at hzz
    obtain ⟨hz0, hz1, hz2⟩ := hzz
    clear h4
    obtain ⟨w3, hrun, hown3, hg3⟩ := run_make_full (P := Tryz.prog) w2 w.heap.size 32 55 i0 _ 4 Tryz.underlying32 hi0 hz0 hz1 .i64 .i64 o.length (by rw [hz2]; omega) (by simp only [maxLen]; omega) HB.out.size
    have hb3 : Below w2.heap.size w2 w3 := ⟨hg3.os, hg3.tape, hg3.output, hg3.size, fun k hk => hg3.block k hk (by simp)⟩
    have HV3 := Lib.hid (HV.out.below hb3)
    have hzw2' := HB.out.size
    have HB3 := Lib.hid (HB.out.trans (hb3.mono HB.out.size))
    have hg2 : w2.heap.size < w3.heap.size := by
      rcases hown3.2 with ⟨h, _⟩ | ⟨g, cap, cur, h, _, hh, _⟩
      · cases h
      · injection h with h; injection h with h; injection h with h; rw [h]; exact blt_ hh
    have HO3 := Lib.hid (zero_rows (S := fun b => b < w.heap.size ∨ b ∈ ([] : List Nat)) (W := w3) hown3)
    clear hown3 hg3 hb3 r0 r1 lr HV HB
    obtain ⟨o03, o13⟩ := one_ HV3.out.order
    have lo3 := blt_ HV3.out.order
    go_wp2_with fail
    obtain ⟨AT, cT, atv, hmb, hnd⟩ := HM.out.nds (by omega)
    have HMB := Lib.hid hmb
    have HND := Lib.hid hnd
    have lmb := blt_ hmb
    have HSF := Lib.hid HM.out.foot
    clear hmb hnd hrun o0 o1 lo o03 o13 lo3
    have hz3 := HB3.out.size
    have hzw2 : w.heap.size ≤ w2.heap.size := hzw2'
    go_loopw [10, 11, 12, 13, 29] (fun _ _ _ _ v wr => ∃ (i : Nat) (R : List Nat), i ≤ o.length ∧ v = .int .i64 i ∧ Hid (FAt (fun b => b < w.heap.size) w wr w3.heap.size w2.heap.size o.length R (outL l o i)) ∧ Hid (VAt wr w.heap.size (w.heap.size + 1 + 1 + 1) (w.heap.size + 1 + 1) (w.heap.size + 1 + 1 + 1 + 1) w.heap.size (w.heap.size + 1 + 1 + 1 + 1 + 1) bm (w.heap.size + 1) (.slice A2 o.length c2) o o) ∧ Hid (Below w.heap.size w wr)) (fun _ _ _ _ v _ => o.length - (intOf v).toNat)
    case atStart =>
      refine ⟨0, [], Nat.zero_le _, rfl, Lib.hid ⟨alk _ _ rfl, ?_, fun b hb => (by cases hb), (by simp [outL])⟩, Lib.hid (HV3.out.below (box_below _ _)), Lib.hid (HB3.out.alloc HB3.out.size _)⟩
      have h0 : outL l o 0 = List.replicate o.length nd0 := by simp [outL]
      rw [h0]
      exact HO3.out.keep (fun k _ hk => Below.heap_alloc _ _ _ hk) (fun x _ cs hx => NdR.keep hx (by simp) (Agree.of_below (box_below _ _)) (fun _ _ h => h))
    case round =>
      clear HV3 HB3 HO3
      obtain ⟨i, R, hi, rfl, HF, HV, HB⟩ := hrel
      obtain ⟨wS, rfl⟩ : ∃ wS, wS = wr := ⟨_, rfl⟩
      obtain ⟨f0, f1⟩ := one_ HF.out.out
      have lf := blt_ HF.out.out
      by_cases hlt : i < o.length
      · obtain ⟨go, co, hgo, hgoc, _, hgol, _, _, hgoe⟩ := HV.out.row.at_ (by omega)
        simp only [Value.slice.injEq] at hgo
        obtain ⟨rfl, _, rfl⟩ := hgo
        obtain ⟨cs, _, ⟨rfl, hki⟩, hcc⟩ := hgoe i o[i] (List.getElem?_eq_getElem hlt)
        have k0 := hcc 0 _ rfl
        rw [Nat.mul_one, Nat.add_zero] at k0
        have hkr := HOO.out.rng o[i] (List.getElem_mem hlt)
        have HOI := Lib.hid (List.getElem?_eq_getElem hlt)
        obtain ⟨kn, hkn⟩ : ∃ kn : Nat, o[i] = kn := ⟨o[i].toNat, by have := hkr.1; omega⟩
        rw [hkn] at k0 hkr HOI hki
        clear hcc hgoe hkn
        have hknl : kn < l.length := by have := hkr.2; omega
        have hkni : (kn : Int) < (l.length : Int) := by omega
        obtain ⟨b, of, A2', c2', A3, c3, rfl, _, hbl, hN, e0, e1, e2, e3⟩ := nd_cells HND.out hknl
        have e08 := (HB.out.cell (p := ⟨b, of + kn * 4, none⟩) hbl).trans e0
        have e18 := (HB.out.cell (p := ⟨b, of + kn * 4 + 1, none⟩) hbl).trans e1
        have e28 := (HB.out.cell (p := ⟨b, of + kn * 4 + 2, none⟩) hbl).trans e2
        have e38 := (HB.out.cell (p := ⟨b, of + kn * 4 + 3, none⟩) hbl).trans e3
        have HN := Lib.hid hN
        have hnk : ndAt l (kn : Int) = l[kn] := by unfold ndAt; rw [Int.toNat_natCast, List.getD_eq_getElem?_getD, List.getElem?_eq_getElem hknl]; rfl
        have HNK := Lib.hid hnk
        have HKR := Lib.hid (show ∀ c ∈ l[kn].kids, InR l c by have := HCL.out kn hkr; rwa [hnk] at this)
        have hkl2 := HKL.out l[kn] (List.getElem_mem hknl)
        generalize l[kn] = x at *
        obtain ⟨x0, x1⟩ := one_ HV.out.m
        have lx := blt_ HV.out.m
        have HM8 := Lib.hid ((HB.out.block bm lmb).trans HMB.out)
        obtain ⟨m0, m1, mf⟩ := two_ HM8.out
        have lm := blt_ HM8.out
        have his : (i : Int) < (o.length : Int) := by omega
        clear hN e0 e1 e2 e3 hnk
        go_wp2_with fail
        refine (cloneInts_any (fun b => b < w.heap.size) x.kids _ _ (HN.out.kids.keep (by simp; have := HB.out.size; omega) (fun b hb hs => (HB.out.alloc HB.out.size _).block b hb) (fun _ h _ => h)) (by omega)).mono ?_
        rintro e wB ⟨v3, rfl, ho3, hb3⟩
        obtain ⟨A4, c4, rfl⟩ := ho3.shape
        have hbB : Below wS.heap.size wS wB := bthen (box_below wS _) hb3
        have HBB := Lib.hid hbB
        have HN3 := Lib.hid (below_ hb3 (new_ wS (.cells #[.bool x.leaf, .int .i64 x.fact, .slice A2' x.cuts.length c2', .slice A3 x.kids.length c3] 55)))
        simp only [World.alloc, Array.size_push] at ho3
        have HO4 := Lib.hid ho3
        clear ho3 hb3 hbB f0 f1 x0 x1 m0 m1 mf e08 e18 e28 e38 k0
        obtain ⟨n0, n1, n2, n3, nf⟩ := four_ HN3.out
        have ln := blt_ HN3.out
        have hzB := HBB.out.size
        go_wp2_with fail
        have hne4 : ∀ k, (Value.slice A4 x.kids.length c4).ownBlock = some k → k ≠ wS.heap.size := fun k hk => by have := (own_lt HO4.out hk).2.1; omega
        go_loopw [13, 49] (fun _ v wi => ∃ q : Nat, q ≤ x.kids.length ∧ v = .int .i64 q ∧ Hid (Below wS.heap.size wS wi) ∧ Hid (wi.heap[wS.heap.size]? = some (.cells #[.bool x.leaf, .int .i64 x.fact, .slice A2' x.cuts.length c2', .slice A4 x.kids.length c4] 55 (0, 0))) ∧ Hid (OwnAt wi (wS.heap.size + 1) 3 1 IntR (.slice A4 x.kids.length c4) (turned (posI o) x.kids q))) (fun _ v _ => x.kids.length - (intOf v).toNat)
        case atStart =>
          refine ⟨0, Nat.zero_le _, rfl, Lib.hid (HBB.out.setCell (p := ⟨wS.heap.size, 3, none⟩) (Nat.le_refl _) _), Lib.hid (set_3 HN3.out), Lib.hid ?_⟩
          have : turned (posI o) x.kids 0 = x.kids := by simp [turned]
          rw [this]
          exact HO4.out.keep (fun k hk _ => (Below.heap_setCell _ ⟨wS.heap.size, 3, none⟩ _ k (hne4 k hk))) (fun _ _ _ h => h)
        case round =>
          clear HBB HN3 HO4 n0 n1 n2 n3 nf ln hzB
          obtain ⟨q, hq, rfl, HBI, HNI, HOI4⟩ := hrel
          obtain ⟨n0, n1, n2, n3, nf⟩ := four_ HNI.out
          have ln := blt_ HNI.out
          have hzi := HBI.out.size
          by_cases hql : q < x.kids.length
          · have hT := turned_at (posI o) hql
            have hqlt : q < (turned (posI o) x.kids q).length := by rw [turned_len]; exact hql
            obtain ⟨g4, c4', hg4, hgc, hg4B, hg4l, hg4f, _, hgx⟩ := HOI4.out.at_ (by omega)
            simp only [Value.slice.injEq] at hg4
            obtain ⟨rfl, hgl, rfl⟩ := hg4
            clear hgl
            obtain ⟨cs, _, ⟨rfl, hci⟩, hcc⟩ := hgx q x.kids[q] hT
            have c0 := hcc 0 _ rfl
            rw [Nat.mul_one, Nat.add_zero] at c0
            have hmo := HCO.out (kn : Int) (List.mem_of_getElem? HOI.out) x.kids[q] (by rw [HNK.out]; exact List.getElem_mem hql)
            have HTS := Lib.hid (turned_set (posI o) hql)
            have HTT := Lib.hid hT
            have HIX := Lib.hid (show ∀ W, Below wS.heap.size wS W → (Instr.lookup 134 (.map (some (w.heap.size + 1 + 1))) (.int .i64 x.kids[q]) false).run Tryz.prog W = .ok (.int .i64 (posI o x.kids[q])) W from fun W hW => by
              have := MapAt.look (HV.out.map.below hW) keyed3 Tryz.underlying134 intInj (keyInt hci) (zero3 _) false
              rw [mget_pos, if_pos hmo] at this
              exact this)
            generalize x.kids[q] = c at *
            have hpi : I64 (posI o c) := by
              have := List.idxOf_le_length (a := c) (l := o)
              unfold I64 posI; omega
            clear hcc hgx hT hmo
            have HP := Lib.hid (below_ HBI.out HV.out.place)
            have hpp := one_ HP.out
            have lpp := blt_ HV.out.place
            have hqs : (q : Int) < (x.kids.length : Int) := by omega
            have hlk := HIX.out wr.drew HBI.out.drew
            have hne1 : g4 ≠ wS.heap.size := by omega
            have hne2 : g4 ≠ w.heap.size + 1 + 1 + 1 := by omega
            have f4 := hg4f q
            go_wp2_with fail
            have HS0 : (fun w' : World => w'.cell? ⟨wS.heap.size, 3, none⟩ = some (.slice (some ⟨g4, 0, none⟩) x.kids.length c4) ∧ w'.cell? ⟨w.heap.size + 1 + 1 + 1, 0, none⟩ = some (.map (some (w.heap.size + 1 + 1))) ∧ w'.cell? ⟨g4, q, none⟩ = some (.int .i64 c) ∧ Below wS.heap.size wS w') wr.drew := ⟨n3, hpp.1, c0, HBI.out.drew⟩
            refine wp_region_L (S := fun w' : World => w'.cell? ⟨wS.heap.size, 3, none⟩ = some (.slice (some ⟨g4, 0, none⟩) x.kids.length c4) ∧ w'.cell? ⟨w.heap.size + 1 + 1 + 1, 0, none⟩ = some (.map (some (w.heap.size + 1 + 1))) ∧ w'.cell? ⟨g4, q, none⟩ = some (.int .i64 c) ∧ Below wS.heap.size wS w') (T := [11]) (by kernel_rfl) HS0 (fun _ => ?_)
            refine wpAnyL_pure (i := 0) (oi := _) (v := ?_) (some 52) rfl rfl (by kernel_rfl) (by kernel_rfl) (by kernel_rfl) (by kernel_rfl) (fun _ _ _ h => h) (fun _ => HS0) (Or.inl ⟨by rfl, ?_⟩) ?_
            rotate_left
            · intro W9 hSw; go_simp; try with_reducible rfl
            try simp only [Act.put, List.setIfInBounds_toArray, List.set_cons_zero, List.set_cons_succ]
            refine wpAnyL_load (i := 1) (oi := _) (v := ?_) (some 53) rfl rfl (by kernel_rfl) (by kernel_rfl) (by kernel_rfl) (by kernel_rfl) (fun _ _ _ h => h) (fun _ => HS0) (by kernel_rfl) (by kernel_rfl) (Or.inl ⟨by rfl, ?_⟩) ?_
            rotate_left
            · intro W9 hSw; obtain ⟨p3, pm, pk, hBW9⟩ := hSw; have hlk9 := HIX.out W9 hBW9; go_simp; try with_reducible rfl
            try simp only [Act.put, List.setIfInBounds_toArray, List.set_cons_zero, List.set_cons_succ]
            refine wpAnyL_pure (i := 2) (oi := _) (v := ?_) (some 54) rfl rfl (by kernel_rfl) (by kernel_rfl) (by kernel_rfl) (by kernel_rfl) (fun _ _ _ h => h) (fun _ => HS0) (Or.inl ⟨by rfl, ?_⟩) ?_
            rotate_left
            · intro W9 hSw; go_simp; try with_reducible rfl
            try simp only [Act.put, List.setIfInBounds_toArray, List.set_cons_zero, List.set_cons_succ]
            refine wpAnyL_load (i := 3) (oi := _) (v := ?_) (some 55) rfl rfl (by kernel_rfl) (by kernel_rfl) (by kernel_rfl) (by kernel_rfl) (fun _ _ _ h => h) (fun _ => HS0) (by kernel_rfl) (by kernel_rfl) (Or.inl ⟨by rfl, ?_⟩) ?_
            rotate_left
            · intro W9 hSw; obtain ⟨p3, pm, pk, hBW9⟩ := hSw; have hlk9 := HIX.out W9 hBW9; go_simp; try with_reducible rfl
            try simp only [Act.put, List.setIfInBounds_toArray, List.set_cons_zero, List.set_cons_succ]
            refine wpAnyL_pure (i := 4) (oi := _) (v := ?_) (some 56) rfl rfl (by kernel_rfl) (by kernel_rfl) (by kernel_rfl) (by kernel_rfl) (fun _ _ _ h => h) (fun _ => HS0) (Or.inl ⟨by rfl, ?_⟩) ?_
            rotate_left
            · intro W9 hSw; go_simp; try with_reducible rfl
            try simp only [Act.put, List.setIfInBounds_toArray, List.set_cons_zero, List.set_cons_succ]
            refine wpAnyL_load (i := 5) (oi := _) (v := ?_) (some 57) rfl rfl (by kernel_rfl) (by kernel_rfl) (by kernel_rfl) (by kernel_rfl) (fun _ _ _ h => h) (fun _ => HS0) (by kernel_rfl) (by kernel_rfl) (Or.inl ⟨by rfl, ?_⟩) ?_
            rotate_left
            · intro W9 hSw; obtain ⟨p3, pm, pk, hBW9⟩ := hSw; have hlk9 := HIX.out W9 hBW9; go_simp; try with_reducible rfl
            try simp only [Act.put, List.setIfInBounds_toArray, List.set_cons_zero, List.set_cons_succ]
            refine wpAnyL_pure (i := 6) (oi := _) (v := ?_) (some 58) rfl rfl (by kernel_rfl) (by kernel_rfl) (by kernel_rfl) (by kernel_rfl) (fun _ _ _ h => h) (fun _ => HS0) (Or.inl ⟨by rfl, ?_⟩) ?_
            rotate_left
            · intro W9 hSw; go_simp; try with_reducible rfl
            try simp only [Act.put, List.setIfInBounds_toArray, List.set_cons_zero, List.set_cons_succ]
            refine wpAnyL_pure (i := 7) (oi := _) (v := ?_) (some 59) rfl rfl (by kernel_rfl) (by kernel_rfl) (by kernel_rfl) (by kernel_rfl) (fun _ _ _ h => h) (fun _ => HS0) (Or.inl ⟨by rfl, ?_⟩) ?_
            rotate_left
            · intro W9 hSw; go_simp; try with_reducible rfl
            try simp only [Act.put, List.setIfInBounds_toArray, List.set_cons_zero, List.set_cons_succ]
            refine wpAnyL_load (i := 8) (oi := _) (v := ?_) (some 60) rfl rfl (by kernel_rfl) (by kernel_rfl) (by kernel_rfl) (by kernel_rfl) (fun _ _ _ h => h) (fun _ => HS0) (by kernel_rfl) (by kernel_rfl) (Or.inl ⟨by rfl, ?_⟩) ?_
            rotate_left
            · intro W9 hSw; obtain ⟨p3, pm, pk, hBW9⟩ := hSw; have hlk9 := HIX.out W9 hBW9; go_simp; try with_reducible rfl
            try simp only [Act.put, List.setIfInBounds_toArray, List.set_cons_zero, List.set_cons_succ]
            refine wpAnyL_load (i := 9) (oi := _) (v := ?_) (some 61) rfl rfl (by kernel_rfl) (by kernel_rfl) (by kernel_rfl) (by kernel_rfl) (fun _ _ _ h => h) (fun _ => HS0) (by kernel_rfl) (by kernel_rfl) (Or.inl ⟨by rfl, ?_⟩) ?_
            rotate_left
            · intro W9 hSw; obtain ⟨p3, pm, pk, hBW9⟩ := hSw; have hlk9 := HIX.out W9 hBW9; go_simp; try with_reducible rfl
            try simp only [Act.put, List.setIfInBounds_toArray, List.set_cons_zero, List.set_cons_succ]
            refine wpAnyL_pure (i := 10) (oi := _) (v := ?_) (some 62) rfl rfl (by kernel_rfl) (by kernel_rfl) (by kernel_rfl) (by kernel_rfl) (fun _ _ _ h => h) (fun _ => HS0) (Or.inl ⟨by rfl, ?_⟩) ?_
            rotate_left
            · intro W9 hSw; go_simp; try with_reducible rfl
            try simp only [Act.put, List.setIfInBounds_toArray, List.set_cons_zero, List.set_cons_succ]
            refine wpAnyL_ready (rs := [11]) (by kernel_rfl) (by simp) ?_
            refine (ReadyL.cons rfl (fun K hK => ?_) ReadyL.nil)
            obtain ⟨p3, pm, pk, _⟩ := HS0
            go_simp
            refine hK.out _ _ (fun hb => absurd ((hb 11 (by simp)).symm.trans (by kernel_rfl)) Bool.false_ne_true) (fun _ => ?_)
            clear hK K
            try simp only [Act.put, List.setIfInBounds_toArray, List.set_cons_zero, List.set_cons_succ]
            refine wpAnyL_done (by kernel_rfl) ?_ _
            go_wp2_with fail
            go_roundw
            case rel =>
              refine ⟨q + 1, by omega, by go_num, Lib.hid ((HBI.out.setCell (p := ⟨g4, q, none⟩) (by simp only; omega) (.int .i64 (posI o c))).drew), Lib.hid (show (wr.setCell ⟨g4, q, none⟩ (.int .i64 (posI o c))).heap[wS.heap.size]? = _ from (Below.heap_setCell wr ⟨g4, q, none⟩ _ wS.heap.size (by simp only; omega)).trans HNI.out), Lib.hid ?_⟩
              have h1 := own_set HOI4.out (i := 0) (y := posI o c) HTT.out (by decide) (.int .i64 (posI o c)) (fun cs hl hR => by
                obtain ⟨rfl, _⟩ := hR
                exact ⟨rfl, hpi⟩)
              rw [HTS.out] at h1
              simp only [Nat.mul_one, Nat.add_zero] at h1
              exact h1.keep (w' := (wr.setCell ⟨g4, q, none⟩ (.int .i64 (posI o c))).drew) (fun _ _ _ => rfl) (fun _ _ _ h => h)
            case measure => simp [intOf]; omega
          · obtain rfl : q = x.kids.length := by omega
            have HFI := Lib.hid (HF.out.below HBI.out)
            have HVI := Lib.hid (HV.out.below HBI.out)
            have HBW := Lib.hid (HB.out.trans (HBI.out.mono HB.out.size))
            have h4 := HOI4.out
            rw [turned_end] at h4
            have HO5 := Lib.hid h4
            clear h4
            obtain ⟨f0, f1⟩ := one_ HFI.out.out
            have lf := blt_ HFI.out.out
            obtain ⟨g5, c5, A6, c6, A7, c7, hv5, hg5B, hg5l, hg5f, _, d0, d1, d2, d3⟩ := own_nd (HFI.out.row.keep (R' := NdR (fun b => b < w.heap.size ∨ b ∈ R) wr) (fun _ _ _ => rfl) (fun _ _ _ h => h)) (j := i) (by rw [HFI.out.len]; exact hlt)
            simp only [Value.slice.injEq, Option.some.injEq, Addr.mk.injEq] at hv5
            obtain ⟨⟨rfl, hw1⟩, hw2, hw3⟩ := hv5
            clear hw1 hw2 hw3
            have k1 := hg5f (i * 4)
            have k2 := hg5f (i * 4 + 1)
            have k3 := hg5f (i * 4 + 2)
            have k4 := hg5f (i * 4 + 3)
            go_wp2_with fail
            go_roundw
            case rel =>
              have hc := HN.out.cuts.keep (S2 := fun b => b < w.heap.size ∨ b ∈ (Value.slice A4 x.kids.length c4).ownBlock.toList ++ R) HBW.out.size (fun b hb _ => HBW.out.block b hb) (fun b hb _ => .inl hb)
              have hlm : (x.kids.map (posI o)).length = x.kids.length := by simp
              have hk := HO5.out.slice (S := fun b => b < w.heap.size ∨ b ∈ (Value.slice A4 x.kids.length c4).ownBlock.toList ++ R) (fun g c hg _ => .inr (by rw [hg]; simp)) (by rw [hlm]; unfold N44; omega) (fun _ _ _ h => h)
              refine ⟨i + 1, (Value.slice A4 x.kids.length c4).ownBlock.toList ++ R, by omega, by go_num, Lib.hid ?_, Lib.hid (HVI.out.put4 HFI.out.row i _ _ _ _), Lib.hid ((((HBW.out.setCell (p := ⟨w2.heap.size, i * 4, none⟩) hzw2 _).setCell (p := ⟨w2.heap.size, i * 4 + 1, none⟩) hzw2 _).setCell (p := ⟨w2.heap.size, i * 4 + 2, none⟩) hzw2 _).setCell (p := ⟨w2.heap.size, i * 4 + 3, none⟩) hzw2 _)⟩
              have h9 := HFI.out.put hlt (y := { x with kids := x.kids.map (posI o) }) (v2 := .slice A2' x.cuts.length c2') (v3 := .slice A4 x.kids.length c4) hzw2 HN.out.fact hc hk (fun b hb => by
                obtain ⟨h1, _, h2⟩ := own_lt HO5.out (Option.mem_toList.1 hb)
                exact ⟨h1, h2⟩)
              rw [outL_set HOI.out HNK.out] at h9
              exact h9
            case measure => simp [intOf]; omega
      · obtain rfl : i = o.length := by omega
        obtain ⟨r0, r1⟩ := one_ HV.out.res
        have lr := blt_ HV.out.res
        go_wp2_with fail
        refine bodyPost_ret (v := .tuple #[.agg #[.slice (some ⟨w2.heap.size, 0, none⟩) o.length o.length], .int .i64 0]) (by simp [results, Tryz.results47, go_sem, r0]) rfl ?_
        have he : outL l o o.length = serL l o := by
          have hs : (serL l o).length = o.length := by simp [serL]
          unfold outL
          rw [← hs, List.take_length]; simp
        have hrow := HF.out.row
        rw [he] at hrow
        obtain ⟨_, cur, hgb⟩ := row55 hrow
        have hne : ∀ {k : Nat} {t : TypeId} {c : Array Value}, wS.heap[k]? = some (.cells c t (0, 0)) → t ≠ 34 → k ≠ w.heap.size + 1 := fun hk ht e => by
          subst e; rw [HV.out.res] at hk; injection hk with hk; injection hk with _ hk; exact ht hk.symm
        refine ⟨.slice (some ⟨w2.heap.size, 0, none⟩) o.length o.length, by rw [HFK2.out], ?_, HB.out.setCell (by simp) _⟩
        rw [HFK2.out]
        refine (hrow.keep (w' := wS.setCell ⟨w.heap.size + 1, 0, none⟩ (.slice (some ⟨w2.heap.size, 0, none⟩) o.length o.length)) (fun k hk _ => ?_) (fun _ _ _ h => h)).slice (fun _ _ _ _ => trivial) (by unfold N44; simp [serL]; omega) (fun x _ cs hx => ?_)
        · simp [Value.ownBlock] at hk
          subst hk
          exact set_oth (hne hgb (by decide))
        · refine NdR.keep hx (by simp [World.setCell]) (fun b hb hs => set_oth ?_) (fun _ _ _ => trivial)
          rcases hs with h1 | h1
          · omega
          · obtain ⟨_, c, h2⟩ := HF.out.own b h1
            exact hne h2 (by decide)
end Go.Proofs.YtfajbcjcigajfaaGreatDoor
