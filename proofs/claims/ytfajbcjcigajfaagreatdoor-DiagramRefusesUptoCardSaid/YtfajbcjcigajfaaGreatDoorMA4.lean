/- Part of the proof of a law of customhouselaw26: the texts A4. -/
import Derived.Test.YtfajbcjcigajfaaGreatDoorMBasA2A3
namespace Go.Proofs.YtfajbcjcigajfaaGreatDoor
open Go.RowKit

theorem info24 : (Tryz.prog.info? 24).map (fun i => (i.zero, i.size, i.bytes)) = some (some (.agg #[.int .i64 0, .string ⟨#[]⟩, .int .i64 0, .int .i64 0, .slice none 0 0]), 5, 64) := by kernel_rfl

/-- The blocks that an element of the row v may use. -/
def EN (S : Nat → Prop) (w wr : World) (v : Value) (b : Nat) : Prop := (S b ∧ b < w.heap.size) ∨ (w.heap.size + 2 ≤ b ∧ some b ≠ v.ownBlock ∧ ∃ c, wr.heap[b]? = some (.cells c 24 (0, 0)))
def elemR (S : Nat → Prop) (w wr : World) (v : Value) (d : Nat) (k : Fm) (cs : List Value) : Prop := ∃ A c, cs = fv k A c ∧ FmR (EN S w wr v) wr d k cs
/-- After j kids of a conjunction. -/
def JoinRel (S : Nat → Prop) (w : World) (d : Nat) (op : Int) (gs : List Fm) (j : Nat) (v : Value) (wr : World) : Prop :=
  ∃ acc, Hid (acc = (gs.take j).filter fun k => k.op != unitI op) ∧ Hid (∀ k ∈ gs.take j, (k.op == zeroI op) = false) ∧ Hid (OwnAt wr (w.heap.size + 2) 24 5 (elemR S w wr v d) v acc) ∧ Hid (Below w.heap.size w wr) ∧
    wr.heap[w.heap.size + 1]? = some (.cells #[.int .i64 0, .string ⟨#[]⟩, .int .i64 0, .int .i64 0, .slice none 0 0] 24 (0, 0)) ∧ wr.cell? ⟨w.heap.size, 0, none⟩ = some (.int .i64 op)

theorem joinF_end {op : Int} {gs acc : List Fm} (ha : acc = (gs.take gs.length).filter fun k => k.op != unitI op) (hz : ∀ k ∈ gs.take gs.length, (k.op == zeroI op) = false) : joinF op gs = shutF op acc := by
  rw [List.take_length] at ha hz
  unfold joinF
  rw [List.find?_eq_none.2 (fun k hk => by simp [hz k hk])]
  rw [ha]
theorem joinF_hit {op : Int} {gs : List Fm} {j : Nat} {k : Fm} (hj : gs[j]? = some k) (hz : ∀ k ∈ gs.take j, (k.op == zeroI op) = false) (hk : (k.op == zeroI op) = true) : joinF op gs = k := by
  have hlt := (List.getElem?_eq_some_iff.1 hj).1
  have h1 : gs = gs.take j ++ k :: gs.drop (j + 1) := by
    have h2 : gs[j] = k := (List.getElem?_eq_some_iff.1 hj).2
    rw [← h2, List.getElem_cons_drop, List.take_append_drop]
  unfold joinF
  have : gs.find? (fun k => k.op == zeroI op) = some k := by
    rw [h1, List.find?_append, List.find?_eq_none.2 (fun k hk => by simp [hz k hk])]
    simp [hk]
  rw [this]
theorem take_snoc {α : Type} {gs : List α} {j : Nat} {k : α} (hj : gs[j]? = some k) : gs.take (j + 1) = gs.take j ++ [k] := by
  have hlt := (List.getElem?_eq_some_iff.1 hj).1
  have h2 : gs[j] = k := (List.getElem?_eq_some_iff.1 hj).2
  rw [List.take_succ_eq_append_getElem hlt, h2]
theorem acc_keep {op : Int} {gs acc : List Fm} {j : Nat} {k : Fm} (hj : gs[j]? = some k) (ha : acc = (gs.take j).filter fun k => k.op != unitI op) (hk : (k.op == unitI op) = false) : acc ++ [k] = (gs.take (j + 1)).filter fun k => k.op != unitI op := by
  rw [take_snoc hj, List.filter_append, ha, List.filter_cons]
  simp [bne, hk]
theorem acc_drop {op : Int} {gs acc : List Fm} {j : Nat} {k : Fm} (hj : gs[j]? = some k) (ha : acc = (gs.take j).filter fun k => k.op != unitI op) (hk : (k.op == unitI op) = true) : acc = (gs.take (j + 1)).filter fun k => k.op != unitI op := by
  rw [take_snoc hj, List.filter_append, ha, List.filter_cons]
  simp [bne, hk]
theorem nz_snoc {op : Int} {gs : List Fm} {j : Nat} {k : Fm} (hj : gs[j]? = some k) (hz : ∀ k ∈ gs.take j, (k.op == zeroI op) = false) (hk : (k.op == zeroI op) = false) : ∀ k ∈ gs.take (j + 1), (k.op == zeroI op) = false := by
  rw [take_snoc hj]
  intro x hx
  rcases List.mem_append.1 hx with hx | hx
  · exact hz x hx
  · rw [List.mem_singleton.1 hx]; exact hk
/-- What the row's elements use stays while no block but the row, or a block below w + 2, is written. -/
theorem EN.agree {S T : Nat → Prop} {w wr w1 : World} {v : Value} (h : Chg T wr w1) (hv : ∀ i, v.ownBlock = some i → w.heap.size + 2 ≤ i) (hT : ∀ i, i < wr.heap.size → T i → some i = v.ownBlock ∨ (w.heap.size ≤ i ∧ i < w.heap.size + 2)) : Agree (EN S w wr v) wr w1 :=
  h.agree (fun i hi hs ht => by
    rcases hT i hi ht with h1 | h1
    · have := hv i h1.symm
      rcases hs with hs | hs
      · omega
      · exact hs.2.1 h1
    · rcases hs with hs | hs <;> omega)
theorem EN.lift {S T : Nat → Prop} {w wr w1 : World} {v v1 : Value} (h : Chg T wr w1) (hv : ∀ i, v.ownBlock = some i → w.heap.size + 2 ≤ i) (hT : ∀ i, i < wr.heap.size → T i → some i = v.ownBlock ∨ (w.heap.size ≤ i ∧ i < w.heap.size + 2))
    (hv1 : v1.ownBlock = v.ownBlock ∨ ∃ b, v1.ownBlock = some b ∧ wr.heap.size ≤ b) : Sub (EN S w wr v) (EN S w w1 v1) wr := by
  intro b hb hs
  have hag := EN.agree (S := S) h hv hT b hb hs
  rcases hs with hs | ⟨h1, h2, c, hc⟩
  · exact .inl hs
  · refine .inr ⟨h1, ?_, c, hag.trans hc⟩
    rcases hv1 with e | ⟨g, e, hg⟩
    · rw [e]; exact h2
    · rw [e]; intro e2; injection e2 with e2; omega
/-- The elements of the row in a later world. -/
theorem elemR.lift {S T : Nat → Prop} {w wr w1 : World} {v v1 : Value} {d : Nat} (h : Chg T wr w1) (hv : ∀ i, v.ownBlock = some i → w.heap.size + 2 ≤ i) (hT : ∀ i, i < wr.heap.size → T i → some i = v.ownBlock ∨ (w.heap.size ≤ i ∧ i < w.heap.size + 2))
    (hv1 : v1.ownBlock = v.ownBlock ∨ ∃ b, v1.ownBlock = some b ∧ wr.heap.size ≤ b) {k : Fm} {cs : List Value} (hk : elemR S w wr v d k cs) : elemR S w w1 v1 d k cs := by
  obtain ⟨A, c, rfl, hk⟩ := hk
  exact ⟨A, c, rfl, hk.keep h.size (EN.agree h hv hT) (EN.lift h hv hT hv1)⟩
theorem own_ge {α : Type} {w : World} {base : Nat} {e : TypeId} {sz : Nat} {R : α → List Value → Prop} {v : Value} {xs : List α} (h : OwnAt w base e sz R v xs) : ∀ i, v.ownBlock = some i → base ≤ i ∧ i < w.heap.size := by
  obtain ⟨cells, h, _⟩ := h
  exact h.lt
/-- What 'given' hands back for the kid, as an element. -/
theorem elem_new {S T : Nat → Prop} {w w0 w1 W : World} {v : Value} {d : Nat} {k : Fm} {A : Option Addr} {c : Nat} (hk : FmR (SN (fun b => S b ∧ b < w.heap.size) w0 w1) w1 d k (fv k A c)) (h0 : w.heap.size + 2 ≤ w0.heap.size) (hT : ∀ i, T i → w.heap.size ≤ i ∧ i < w0.heap.size)
    (hC : Chg T w1 W) (hv : v.ownBlock = none ∨ ∃ b, v.ownBlock = some b ∧ (b < w0.heap.size ∨ w1.heap.size ≤ b)) : elemR S w W v d k (fv k A c) := by
  refine ⟨A, c, rfl, hk.keep hC.size (SN.agree hC hT) ?_⟩
  intro b hb hs
  rcases hs with hs | ⟨h1, c, hc⟩
  · exact .inl hs.1
  · refine .inr ⟨by omega, ?_, c, (hC.block b hb (fun ht => by have := (hT b ht).2; omega)).trans hc⟩
    rcases hv with e | ⟨g, e, hg⟩
    · rw [e]; simp
    · rw [e]; intro e2; injection e2 with e2; omega
/-- An element is what the whole call hands back. -/
theorem elem_post {S : Nat → Prop} {w wr W : World} {v : Value} {d : Nat} {k : Fm} {A : Option Addr} {c : Nat} {T : Nat → Prop} (hk : FmR (EN S w wr v) wr d k (fv k A c)) (hC : Chg T wr W) (hv : ∀ i, v.ownBlock = some i → w.heap.size + 2 ≤ i) (hT : ∀ i, i < wr.heap.size → T i → w.heap.size ≤ i ∧ i < w.heap.size + 2) (hb : Below w.heap.size w W) :
    GivenPost S w (d + 1) k (.returned (.agg #[.int .i64 k.op, .string k.name, .int .i64 k.cmp, .int .i64 k.n, .slice A k.kids.length c])) W := by
  refine ⟨A, c, rfl, FmR.up (hk.keep hC.size (EN.agree hC hv (fun i hi ht => .inr (hT i hi ht))) ?_), hb⟩
  intro b hb2 hs
  have hag := EN.agree (S := S) hC hv (fun i hi ht => .inr (hT i hi ht)) b hb2 hs
  rcases hs with hs | ⟨h1, _, c, hc⟩
  · exact .inl hs
  · exact .inr ⟨by omega, c, hag.trans hc⟩
theorem row_post {S : Nat → Prop} {w wr W : World} {A : Option Addr} {c : Nat} {d : Nat} {op : Int} {acc : List Fm} {T : Nat → Prop} (ho : OwnAt wr (w.heap.size + 2) 24 5 (elemR S w wr (.slice A acc.length c) d) (.slice A acc.length c) acc) (hop : op = 5 ∨ op = 6) (hl : acc.length ≤ 200)
    (hC : Chg T wr W) (hT : ∀ i, i < wr.heap.size → T i → w.heap.size ≤ i ∧ i < w.heap.size + 2) (hb : Below w.heap.size w W) :
    GivenPost S w (d + 1) ⟨op, ⟨#[]⟩, 0, 0, acc⟩ (.returned (.agg #[.int .i64 op, .string ⟨#[]⟩, .int .i64 0, .int .i64 0, .slice A acc.length c])) W := by
  have hv := fun i hi => (own_ge ho i hi).1
  have h1 := ho.keep (w' := W) (R' := FmR (EN S w wr (.slice A acc.length c)) wr d) (fun k hk hlt => hC.block k hlt (fun ht => by have := hv k hk; have := hT k hlt ht; omega)) (fun x _ cs hx => by obtain ⟨_, _, rfl, hx⟩ := hx; exact hx)
  have h2 := h1.slice (S := SN S w W) (R' := FmR (SN S w W) W d) (fun g c hg hc => .inr ⟨by have := hv g hg; omega, c, hc⟩) (by unfold N44; omega) (fun x _ cs hx => hx.keep hC.size (EN.agree hC hv (fun i hi ht => .inr (hT i hi ht))) (by
    intro b hb2 hs
    have hag := EN.agree (S := S) hC hv (fun i hi ht => .inr (hT i hi ht)) b hb2 hs
    rcases hs with hs | ⟨h1, _, c, hc⟩
    · exact .inl hs
    · exact .inr ⟨by omega, c, hag.trans hc⟩))
  exact ⟨A, c, rfl, ⟨_, rfl, i64_lit (by rcases hop with rfl | rfl <;> simp), i64_lit (by simp), i64_lit (by simp), by simp [ByteArray.size], h2⟩, hb⟩

theorem fv_one (k : Fm) (A : Option Addr) (c : Nat) : ∀ u ∈ fv k A c, u.oneCell' = true := by
  intro u hu
  simp only [fv, List.mem_cons, List.not_mem_nil, or_false] at hu
  rcases hu with rfl | rfl | rfl | rfl | rfl <;> rfl

theorem chg55 {T : Nat → Prop} {w1 : World} {b b2 : Nat} (hb : T b) (hb2 : T b2) (v0 v1 v2 v3 v4 u0 u1 u2 u3 u4 : Value) : Chg T w1 ((((((((((w1.setCell ⟨b, 0, none⟩ v0).setCell ⟨b, 1, none⟩ v1).setCell ⟨b, 2, none⟩ v2).setCell ⟨b, 3, none⟩ v3).setCell ⟨b, 4, none⟩ v4).setCell ⟨b2, 0, none⟩ u0).setCell ⟨b2, 1, none⟩ u1).setCell ⟨b2, 2, none⟩ u2).setCell ⟨b2, 3, none⟩ u3).setCell ⟨b2, 4, none⟩ u4) :=
  (((((chg5 hb v0 v1 v2 v3 v4).setCell (fun _ => hb2) _).setCell (fun _ => hb2) _).setCell (fun _ => hb2) _).setCell (fun _ => hb2) _).setCell (fun _ => hb2) _
/-- The kid itself is handed back. -/
theorem hit_post {S T : Nat → Prop} {w w0 w1 W : World} {d : Nat} {k : Fm} {A : Option Addr} {c : Nat} (hk : FmR (SN (fun b => S b ∧ b < w.heap.size) w0 w1) w1 d k (fv k A c)) (h1 : w.heap.size ≤ w0.heap.size) (hT : ∀ i, T i → w.heap.size ≤ i ∧ i < w0.heap.size)
    (hC : Chg T w1 W) (hb : Below w.heap.size w W) : GivenPost S w (d + 1) k (.returned (.agg #[.int .i64 k.op, .string k.name, .int .i64 k.cmp, .int .i64 k.n, .slice A k.kids.length c])) W :=
  ⟨A, c, rfl, FmR.up (hk.keep hC.size (SN.agree hC hT) (SN.lift h1 hC hT)), hb⟩
theorem rel_drop {S : Nat → Prop} {w wr W : World} {d j : Nat} {op : Int} {gs acc : List Fm} {k : Fm} {v : Value} (HA : Hid (acc = (gs.take j).filter fun k => k.op != unitI op)) (HN : Hid (∀ k ∈ gs.take j, (k.op == zeroI op) = false)) (HO : Hid (OwnAt wr (w.heap.size + 2) 24 5 (elemR S w wr v d) v acc)) (HB : Hid (Below w.heap.size w wr))
    (HK : Hid (gs[j]? = some k)) (hz : (k.op == zeroI op) = false) (hu : (k.op == unitI op) = true) (hC : Chg (fun _ => False) wr W) (hres : W.heap[w.heap.size + 1]? = some (.cells #[.int .i64 0, .string ⟨#[]⟩, .int .i64 0, .int .i64 0, .slice none 0 0] 24 (0, 0))) (hf : W.cell? ⟨w.heap.size, 0, none⟩ = some (.int .i64 op)) : JoinRel S w d op gs (j + 1) v W :=
  ⟨acc, Lib.hid (acc_drop HK.out HA.out hu), Lib.hid (nz_snoc HK.out HN.out hz), Lib.hid (HO.out.keep (fun k _ hlt => hC.block k hlt (fun h => h)) (fun _ _ _ hx => hx.lift hC (fun i hi => (own_ge HO.out i hi).1) (fun _ _ h => h.elim) (.inl rfl))), Lib.hid (bthen HB.out (hC.below (fun _ _ h => h))), hres, hf⟩
theorem rel_keep {S : Nat → Prop} {w wr w0 w1 W W2 : World} {d j : Nat} {op : Int} {gs acc : List Fm} {k : Fm} {v v1 : Value} {A : Option Addr} {c : Nat} {T : Nat → Prop} (HA : Hid (acc = (gs.take j).filter fun k => k.op != unitI op)) (HN : Hid (∀ k ∈ gs.take j, (k.op == zeroI op) = false)) (HO : Hid (OwnAt wr (w.heap.size + 2) 24 5 (elemR S w wr v d) v acc)) (HB : Hid (Below w.heap.size w wr))
    (HK : Hid (gs[j]? = some k)) (hz : (k.op == zeroI op) = false) (hu : (k.op == unitI op) = false) (hk : FmR (SN (fun b => S b ∧ b < w.heap.size) w0 w1) w1 d k (fv k A c)) (h00 : w.heap.size + 2 ≤ wr.heap.size) (h0 : wr.heap.size ≤ w0.heap.size) (hT : ∀ i, T i → wr.heap.size ≤ i ∧ i < w0.heap.size) (hC0 : Chg (fun _ => False) wr W) (hC : Chg T w1 W)
    (hown : ∀ R' : Fm → List Value → Prop, (∀ x ∈ acc, ∀ cs, elemR S w wr v d x cs → R' x cs) → R' k (fv k A c) → OwnAt W2 (w.heap.size + 2) 24 5 R' v1 (acc ++ [k])) (hg : W.grownBy W2 v.ownBlock) (hv1 : v1.ownBlock = v.ownBlock ∨ ∃ b, v1.ownBlock = some b ∧ W.heap.size ≤ b)
    (hres : W2.heap[w.heap.size + 1]? = some (.cells #[.int .i64 0, .string ⟨#[]⟩, .int .i64 0, .int .i64 0, .slice none 0 0] 24 (0, 0))) (hf : W2.cell? ⟨w.heap.size, 0, none⟩ = some (.int .i64 op)) : JoinRel S w d op gs (j + 1) v1 W2 := by
  have hge := own_ge HO.out
  have hCw : Chg (fun i => some i = v.ownBlock) wr W2 := (⟨hC0.os, hC0.tape, hC0.output, hC0.size, fun k hk _ => hC0.block k hk (fun h => h)⟩ : Chg (fun i => some i = v.ownBlock) wr W).grown hg (fun i h _ => h.symm)
  have hC2 : Chg (fun i => T i ∨ some i = v.ownBlock) w1 W2 := (⟨hC.os, hC.tape, hC.output, hC.size, fun k hk h => hC.block k hk (fun h2 => h (.inl h2))⟩ : Chg (fun i => T i ∨ some i = v.ownBlock) w1 W).grown hg (fun i h _ => .inr h.symm)
  refine ⟨acc ++ [k], Lib.hid (acc_keep HK.out HA.out hu), Lib.hid (nz_snoc HK.out HN.out hz), Lib.hid (hown _ ?_ ?_), Lib.hid ?_, hres, hf⟩
  · intro x _ cs hx
    exact hx.lift hCw (fun i hi => (hge i hi).1) (fun i _ h => .inl h) (by
      rcases hv1 with e | ⟨b, e, hb⟩
      · exact .inl e
      · exact .inr ⟨b, e, Nat.le_trans hC0.size hb⟩)
  · refine elem_new hk (by omega) ?_ hC2 ?_
    · intro i hi
      rcases hi with hi | hi
      · have := hT i hi; omega
      · have := hge i hi.symm; omega
    · rcases hv1 with e | ⟨b, e, hb⟩
      · rw [e]
        cases hvb : v.ownBlock with
        | none => exact .inl rfl
        | some i => exact .inr ⟨i, rfl, .inl (by have := hge i hvb; omega)⟩
      · exact .inr ⟨b, e, .inr (Nat.le_trans hC.size hb)⟩
  · have h1 := bthen HB.out (hC0.below (fun _ _ h => h))
    exact h1.trans ⟨hg.os, hg.tape, hg.output, hg.size, fun i hi => hg.block i (Nat.lt_of_lt_of_le hi h1.size) (fun e => by have := hge i e.symm; omega)⟩

set_option maxRecDepth 100000 in
set_option maxHeartbeats 2000000 in
theorem given_join5 (S : Nat → Prop) (d : Nat) (ks : List Fm) (c n x : Int) (nm nm2 : ByteArray) (A : Option Addr) (cp : Nat) (w : World) (hA : RowAt S w 5 (FmR S w d) A ks) (hl : ks.length ≤ 200)
    (hk : ∀ (S' : Nat → Prop) (w0 : World) (k : Fm) (A' : Option Addr) (c' : Nat), k ∈ ks → FmR S' w0 d k (fv k A' c') → Calls Tryz.prog 45 #[.agg #[.int .i64 k.op, .string k.name, .int .i64 k.cmp, .int .i64 k.n, .slice A' k.kids.length c'], .string nm2, .int .i64 x] w0 (GivenPost S' w0 d (given nm2 x k))) :
    Calls Tryz.prog 45 #[.agg #[.int .i64 5, .string nm, .int .i64 c, .int .i64 n, .slice A ks.length cp], .string nm2, .int .i64 x] w (GivenPost S w (d + 1) (joinF 5 (ks.map fun k => given nm2 x k))) := by
  go_enter Tryz.func45, Tryz.ntmps45
  go_wp2_with fail
  go_loopw [10, 63] (fun v i wr => ∃ j : Nat, j ≤ ks.length ∧ i = .int .i64 j ∧ JoinRel S w d 5 (ks.map fun k => given nm2 x k) j v wr) (fun _ i _ => ks.length - (intOf i).toNat)
  case atStart => exact ⟨0, Nat.zero_le _, rfl, [], Lib.hid (by simp), Lib.hid (fun k hk => by simp at hk), Lib.hid (OwnAt.nil ..), Lib.hid (((Below.refl _ _).alloc (Nat.le_refl _) _).alloc (by simp) _), by simpa using new_ (w.alloc (.cells #[.int .i64 5, .string nm, .int .i64 c, .int .i64 n, .slice A ks.length cp] 24)) (.cells #[.int .i64 0, .string { data := #[] }, .int .i64 0, .int .i64 0, .slice none 0 0] 24), by simp [go_sem]⟩
  case round =>
    obtain ⟨j, hj, rfl, acc, HA, HN, HO, HB, hres, hfop⟩ := hrel
    obtain ⟨r0, r1, r2, r3, r4, rf⟩ := five_ hres
    by_cases hlt : j < ks.length
    · obtain ⟨b, o, rfl, hS, hbl, hcell⟩ := hA.2 (by omega)
      obtain ⟨cs, hcl, hR, hcc⟩ := hcell j ks[j] (List.getElem?_eq_getElem hlt)
      obtain ⟨k, hkd⟩ : ∃ k, k = ks[j] := ⟨_, rfl⟩
      rw [← hkd] at hR
      have hmem : k ∈ ks := hkd ▸ List.getElem_mem hlt
      obtain ⟨A', c', rfl⟩ : ∃ A c, cs = fv k A c := by
        cases d with
        | zero => exact hR.elim
        | succ d =>
          obtain ⟨v4, rfl, _, _, _, _, A4, c4, rfl, _⟩ := hR
          exact ⟨A4, c4, rfl⟩
      have HK := Lib.hid (show (ks.map fun k => given nm2 x k)[j]? = some (given nm2 x k) by rw [List.getElem?_map, List.getElem?_eq_getElem hlt, hkd]; rfl)
      have hag := HB.out
      have hR2 : FmR (fun b => S b ∧ b < w.heap.size) wr d k (fv k A' c') := hR.keep hag.size (Agree.of_below hag) (fun b hb hs => ⟨hs, hb⟩)
      have e0 : wr.cell? ⟨b, o + j * 5, none⟩ = some (.int .i64 k.op) := (hag.cell (p := ⟨b, o + j * 5, none⟩) hbl).trans (hcc 0 _ rfl)
      have e1 : wr.cell? ⟨b, o + j * 5 + 1, none⟩ = some (.string k.name) := (hag.cell (p := ⟨b, o + j * 5 + 1, none⟩) hbl).trans (hcc 1 _ rfl)
      have e2 : wr.cell? ⟨b, o + j * 5 + 2, none⟩ = some (.int .i64 k.cmp) := (hag.cell (p := ⟨b, o + j * 5 + 2, none⟩) hbl).trans (hcc 2 _ rfl)
      have e3 : wr.cell? ⟨b, o + j * 5 + 3, none⟩ = some (.int .i64 k.n) := (hag.cell (p := ⟨b, o + j * 5 + 3, none⟩) hbl).trans (hcc 3 _ rfl)
      have e4 : wr.cell? ⟨b, o + j * 5 + 4, none⟩ = some (.slice A' k.kids.length c') := (hag.cell (p := ⟨b, o + j * 5 + 4, none⟩) hbl).trans (hcc 4 _ rfl)
      have HR := Lib.hid hR2
      clear hkd hR hcc hcell hR2
      go_wp2_with fail
      refine (hk (fun b => S b ∧ b < w.heap.size) _ k A' c' hmem (HR.out.keep (by simp) (Agree.of_below ((Below.refl _ _).alloc (Nat.le_refl _) _)) (fun _ _ h => h))).mono ?_
      rintro e w1 ⟨A1, c1, rfl, hr, hb⟩
      have hsz := hag.size
      have hres1 := below_ hb (old_ hres)
      obtain ⟨s0, s1, s2, s3, s4, sf⟩ := five_ hres1
      have hkb := below_ hb (new_ _ _)
      obtain ⟨t0, t1, t2, t3, t4, tf⟩ := five_ hkb
      have hfop1 := (hb.cell (p := ⟨w.heap.size, 0, none⟩) (by simp; omega)).trans ((World.cell?_alloc_lt wr _ ⟨w.heap.size, 0, none⟩ (by simp; have := blt_ hres; omega)).trans hfop)
      generalize given nm2 x k = kx at *
      have H1 := Lib.hid hr
      have H2 := Lib.hid hb
      have H0 := blt_ hkb
      have H00 := blt_ hres
      clear hr hb hk hres hfop r0 r1 r2 r3 r4 rf e0 e1 e2 e3 e4
      have hz0 : w.heap.size + 1 < w1.heap.size := by omega
      have hz1 : w.heap.size < w1.heap.size := by omega
      have hne : ¬ w.heap.size = wr.heap.size := by omega
      have hne1 : ¬ w.heap.size + 1 = wr.heap.size := by omega
      have hne2 : ¬ wr.heap.size = w.heap.size + 1 := by omega
      have hne3 : ¬ wr.heap.size = w.heap.size := by omega
      have HB2 := Lib.hid (show Chg (fun i => w.heap.size ≤ i) w w1 from (Chg.of_below (bthen hag ((Below.refl _ _).alloc (Nat.le_refl _) _))).then H2.out)
      have hbk : ∀ v0 v1 v2 v3 v4 b, b < w1.heap.size → b ≠ wr.heap.size → (((((w1.setCell ⟨wr.heap.size, 0, none⟩ v0).setCell ⟨wr.heap.size, 1, none⟩ v1).setCell ⟨wr.heap.size, 2, none⟩ v2).setCell ⟨wr.heap.size, 3, none⟩ v3).setCell ⟨wr.heap.size, 4, none⟩ v4).heap[b]? = w1.heap[b]? := fun v0 v1 v2 v3 v4 b h1 h2 => (chg5 (T := fun i => i = wr.heap.size) rfl v0 v1 v2 v3 v4).block b h1 h2
      have HBK := Lib.hid hbk
      clear hbk
      by_cases hkz : kx.op = 2
      · have hz : (kx.op == 2) = true := by simp [hkz]
        clear hkz
        go_wp2_with fail
        refine bodyPost_ret (v := .agg #[.int .i64 kx.op, .string kx.name, .int .i64 kx.cmp, .int .i64 kx.n, .slice A1 kx.kids.length c1]) (by simp [results, Tryz.results45, go_sem, s0, s1, s2, s3, s4]) rfl ?_
        rw [joinF_hit HK.out HN.out (by exact hz)]
        refine hit_post (T := fun i => i = wr.heap.size ∨ i = w.heap.size + 1) H1.out ?_ ?_ ?_ ?_
        · simp; omega
        · intro i hi; simp; omega
        · with_reducible (refine chg55 ?_ ?_ _ _ _ _ _ _ _ _ _ _)
          · exact .inl rfl
          · exact .inr rfl
        · refine Chg.below (T := fun i => w.heap.size ≤ i) (Chg.trans (T2 := fun i => w.heap.size ≤ i) (HB2.out) (by with_reducible (exact chg55 hsz (Nat.le_succ _) _ _ _ _ _ _ _ _ _ _)) (fun _ _ h => h)) (fun i hi h => by omega)
      · have hz : (kx.op == 2) = false := by simp [hkz]
        clear hkz
        have hCa : Chg (fun _ => False) wr w1 := (Chg.alloc (Chg.refl _ _) _).then H2.out
        have hCb : ∀ v0 v1 v2 v3 v4, Chg (fun _ => False) wr (((((w1.setCell ⟨wr.heap.size, 0, none⟩ v0).setCell ⟨wr.heap.size, 1, none⟩ v1).setCell ⟨wr.heap.size, 2, none⟩ v2).setCell ⟨wr.heap.size, 3, none⟩ v3).setCell ⟨wr.heap.size, 4, none⟩ v4) := fun v0 v1 v2 v3 v4 =>
          hCa.trans (T2 := fun i => i = wr.heap.size) (chg5 (T := fun i => i = wr.heap.size) rfl v0 v1 v2 v3 v4) (fun i hi e => by omega)
        have HCb := Lib.hid hCb
        clear hCa hCb
        by_cases hku : kx.op = 1
        · have hu : (kx.op == 1) = true := by simp [hku]
          clear hku
          go_wp2_with fail
          go_roundw
          case rel =>
            refine ⟨j + 1, by omega, by go_num, rel_drop HA HN HO HB HK (by exact hz) (by exact hu) (HCb.out _ _ _ _ _) ?_ ?_⟩
            · exact (HBK.out _ _ _ _ _ _ hz0 hne1).trans hres1
            · exact (World.cell?_of_block (HBK.out _ _ _ _ _ _ hz1 hne)).trans hfop1
          case measure => simp [intOf]; omega
        · have hu : (kx.op == 1) = false := by simp [hku]
          clear hku
          have hO : OwnAt (((((w1.setCell ⟨wr.heap.size, 0, none⟩ (.int .i64 kx.op)).setCell ⟨wr.heap.size, 1, none⟩ (.string kx.name)).setCell ⟨wr.heap.size, 2, none⟩ (.int .i64 kx.cmp)).setCell ⟨wr.heap.size, 3, none⟩ (.int .i64 kx.n)).setCell ⟨wr.heap.size, 4, none⟩ (.slice A1 kx.kids.length c1)) (w.heap.size + 2) 24 5 (elemR S w wr u10 d) u10 acc :=
            HO.out.keep (fun k _ hlt => (HCb.out _ _ _ _ _).block k hlt (fun h => h)) (fun _ _ _ h => h)
          have HO2 := Lib.hid hO
          clear hO
          have hal : acc.length ≤ 200 := by rw [HA.out]; refine Nat.le_trans (List.length_filter_le _ _) ?_; simp; omega
          go_wp2_with (at_builtin; refine app_one (R := elemR S w wr u10 d) (w.heap.size + 2) rfl (.tmp 73) (.tmp 75) 22 24 _ 5 64 rfl Tryz.underlying22 info24 rfl (by decide) (by decide) u10 acc kx (fv kx A1 c1) rfl w1.heap.size rfl ?c4 rfl (fv_one _ _ _) HO2.out ?c5 ?c6 ?_)
          case c4 => simp
          case c5 => simp; omega
          case c6 => omega
          intro v1 W2 hown hg hat
          have hge := own_ge HO.out
          have hk1 : ∀ bb, bb < wr.heap.size → bb ≠ wr.heap.size → some bb ≠ u10.ownBlock → W2.heap[bb]? = w1.heap[bb]? := fun bb h1 h2 h3 => (hg.block bb (by simp; omega) h3).trans (HBK.out _ _ _ _ _ bb (by omega) h2)
          have hnr : ∀ bb, bb < w.heap.size + 2 → some bb ≠ u10.ownBlock := fun bb h1 e => by have := hge bb e.symm; omega
          have R := rel_keep (T := fun i => i = wr.heap.size) HA HN HO HB HK hz hu H1.out (by omega) (by simp) (fun i hi => by subst hi; simp) (HCb.out _ _ _ _ _) (chg5 (T := fun i => i = wr.heap.size) rfl _ _ _ _ _) hown hg (by simpa using hat)
            ((hk1 _ (by omega) hne1 (hnr _ (by omega))).trans hres1) ((World.cell?_of_block (a := ⟨w.heap.size, 0, none⟩) (hk1 w.heap.size (by omega) hne (hnr _ (by omega)))).trans hfop1)
          clear hown hg hat hk1 hnr hge HO2 HCb HBK HB2 H1 H2 HK HB HO HN HA
          go_wp2_with fail
          go_roundw
          case rel => exact ⟨j + 1, by omega, by go_num, R⟩
          case measure => simp [intOf]; omega
    · obtain rfl : j = ks.length := by omega
      obtain ⟨A', c', rfl⟩ := HO.out.shape
      have hal : acc.length ≤ 200 := by rw [HA.out]; refine Nat.le_trans (List.length_filter_le _ _) ?_; simp; omega
      have HJ := Lib.hid (joinF_end (gs := ks.map fun k => given nm2 x k) (op := 5) (by simpa using HA.out) (by simpa using HN.out))
      have H00 := blt_ hres
      have hz0 : w.heap.size < wr.heap.size := by omega
      clear HA HN hk
      match acc, HO, HJ, hal with
      | [], HO, HJ, _ =>
        dsimp only [List.length_nil]
        go_wp2_with fail
        refine bodyPost_ret (v := .agg #[.int .i64 1, .string ⟨#[]⟩, .int .i64 0, .int .i64 0, .slice none 0 0]) (by simp [results, Tryz.results45, go_sem, r0, r1, r2, r3, r4]) rfl ?_
        rw [HJ.out]
        exact ⟨none, 0, rfl, knownF_at _ _ d true, store5 HB.out (Nat.le_succ _) _ _ _ _ _⟩
      | [g], HO, HJ, _ =>
        obtain ⟨gb, gc, hv, _, hgb, hgl, _, _, hcell⟩ := HO.out.at_ (by simp)
        have hv2 := hv
        injection hv2 with hA2 _ hc2
        subst hA2 hc2
        obtain ⟨cs, _, ⟨A1, c1, rfl, hg⟩, hcc⟩ := hcell 0 g rfl
        have e0 := hcc 0 _ rfl
        have e1 := hcc 1 _ rfl
        have e2 := hcc 2 _ rfl
        have e3 := hcc 3 _ rfl
        have e4 := hcc 4 _ rfl
        simp only [Nat.zero_mul, Nat.zero_add, Nat.add_zero] at e0 e1 e2 e3 e4
        have HG := Lib.hid hg
        clear hg hcell hcc hv
        dsimp only [List.length_cons, List.length_nil]
        go_wp2_with fail
        refine bodyPost_ret (v := .agg #[.int .i64 g.op, .string g.name, .int .i64 g.cmp, .int .i64 g.n, .slice A1 g.kids.length c1]) (by simp [results, Tryz.results45, go_sem, r0, r1, r2, r3, r4]) rfl ?_
        rw [HJ.out]
        refine elem_post (T := fun i => i = w.heap.size + 1) HG.out ?_ (fun i hi => (own_ge HO.out i hi).1) (fun i _ hi => by omega) (store5 HB.out (Nat.le_succ _) _ _ _ _ _)
        with_reducible (refine chg5 ?_ _ _ _ _ _)
        rfl
      | g1 :: g2 :: gr, HO, HJ, hal =>
        have hl0 : (((g1 :: g2 :: gr).length : Int) == 0) = false := by simp; omega
        have hl1 : (((g1 :: g2 :: gr).length : Int) == 1) = false := by simp; omega
        obtain ⟨m, hm⟩ : ∃ m, m = (g1 :: g2 :: gr).length := ⟨_, rfl⟩
        rw [← hm] at hl0 hl1 ⊢
        have HM := Lib.hid hm
        clear hm
        go_wp2_with fail
        refine bodyPost_ret (v := .agg #[.int .i64 5, .string ⟨#[]⟩, .int .i64 0, .int .i64 0, .slice A' m c']) (by simp [results, Tryz.results45, go_sem, r0, r1, r2, r3, r4]) rfl ?_
        rw [HJ.out, HM.out]
        refine row_post (T := fun i => i = w.heap.size + 1) (acc := g1 :: g2 :: gr) HO.out (.inl rfl) hal ?_ (fun i _ hi => by omega) (store5 HB.out (Nat.le_succ _) _ _ _ _ _)
        with_reducible (refine chg5 ?_ _ _ _ _ _)
        rfl
set_option maxRecDepth 100000 in
set_option maxHeartbeats 2000000 in
theorem given_join6 (S : Nat → Prop) (d : Nat) (ks : List Fm) (c n x : Int) (nm nm2 : ByteArray) (A : Option Addr) (cp : Nat) (w : World) (hA : RowAt S w 5 (FmR S w d) A ks) (hl : ks.length ≤ 200)
    (hk : ∀ (S' : Nat → Prop) (w0 : World) (k : Fm) (A' : Option Addr) (c' : Nat), k ∈ ks → FmR S' w0 d k (fv k A' c') → Calls Tryz.prog 45 #[.agg #[.int .i64 k.op, .string k.name, .int .i64 k.cmp, .int .i64 k.n, .slice A' k.kids.length c'], .string nm2, .int .i64 x] w0 (GivenPost S' w0 d (given nm2 x k))) :
    Calls Tryz.prog 45 #[.agg #[.int .i64 6, .string nm, .int .i64 c, .int .i64 n, .slice A ks.length cp], .string nm2, .int .i64 x] w (GivenPost S w (d + 1) (joinF 6 (ks.map fun k => given nm2 x k))) := by
  go_enter Tryz.func45, Tryz.ntmps45
  go_wp2_with fail
  go_loopw [10, 63] (fun v i wr => ∃ j : Nat, j ≤ ks.length ∧ i = .int .i64 j ∧ JoinRel S w d 6 (ks.map fun k => given nm2 x k) j v wr) (fun _ i _ => ks.length - (intOf i).toNat)
  case atStart => exact ⟨0, Nat.zero_le _, rfl, [], Lib.hid (by simp), Lib.hid (fun k hk => by simp at hk), Lib.hid (OwnAt.nil ..), Lib.hid (((Below.refl _ _).alloc (Nat.le_refl _) _).alloc (by simp) _), by simpa using new_ (w.alloc (.cells #[.int .i64 6, .string nm, .int .i64 c, .int .i64 n, .slice A ks.length cp] 24)) (.cells #[.int .i64 0, .string { data := #[] }, .int .i64 0, .int .i64 0, .slice none 0 0] 24), by simp [go_sem]⟩
  case round =>
    obtain ⟨j, hj, rfl, acc, HA, HN, HO, HB, hres, hfop⟩ := hrel
    obtain ⟨r0, r1, r2, r3, r4, rf⟩ := five_ hres
    by_cases hlt : j < ks.length
    · obtain ⟨b, o, rfl, hS, hbl, hcell⟩ := hA.2 (by omega)
      obtain ⟨cs, hcl, hR, hcc⟩ := hcell j ks[j] (List.getElem?_eq_getElem hlt)
      obtain ⟨k, hkd⟩ : ∃ k, k = ks[j] := ⟨_, rfl⟩
      rw [← hkd] at hR
      have hmem : k ∈ ks := hkd ▸ List.getElem_mem hlt
      obtain ⟨A', c', rfl⟩ : ∃ A c, cs = fv k A c := by
        cases d with
        | zero => exact hR.elim
        | succ d =>
          obtain ⟨v4, rfl, _, _, _, _, A4, c4, rfl, _⟩ := hR
          exact ⟨A4, c4, rfl⟩
      have HK := Lib.hid (show (ks.map fun k => given nm2 x k)[j]? = some (given nm2 x k) by rw [List.getElem?_map, List.getElem?_eq_getElem hlt, hkd]; rfl)
      have hag := HB.out
      have hR2 : FmR (fun b => S b ∧ b < w.heap.size) wr d k (fv k A' c') := hR.keep hag.size (Agree.of_below hag) (fun b hb hs => ⟨hs, hb⟩)
      have e0 : wr.cell? ⟨b, o + j * 5, none⟩ = some (.int .i64 k.op) := (hag.cell (p := ⟨b, o + j * 5, none⟩) hbl).trans (hcc 0 _ rfl)
      have e1 : wr.cell? ⟨b, o + j * 5 + 1, none⟩ = some (.string k.name) := (hag.cell (p := ⟨b, o + j * 5 + 1, none⟩) hbl).trans (hcc 1 _ rfl)
      have e2 : wr.cell? ⟨b, o + j * 5 + 2, none⟩ = some (.int .i64 k.cmp) := (hag.cell (p := ⟨b, o + j * 5 + 2, none⟩) hbl).trans (hcc 2 _ rfl)
      have e3 : wr.cell? ⟨b, o + j * 5 + 3, none⟩ = some (.int .i64 k.n) := (hag.cell (p := ⟨b, o + j * 5 + 3, none⟩) hbl).trans (hcc 3 _ rfl)
      have e4 : wr.cell? ⟨b, o + j * 5 + 4, none⟩ = some (.slice A' k.kids.length c') := (hag.cell (p := ⟨b, o + j * 5 + 4, none⟩) hbl).trans (hcc 4 _ rfl)
      have HR := Lib.hid hR2
      clear hkd hR hcc hcell hR2
      go_wp2_with fail
      refine (hk (fun b => S b ∧ b < w.heap.size) _ k A' c' hmem (HR.out.keep (by simp) (Agree.of_below ((Below.refl _ _).alloc (Nat.le_refl _) _)) (fun _ _ h => h))).mono ?_
      rintro e w1 ⟨A1, c1, rfl, hr, hb⟩
      have hsz := hag.size
      have hres1 := below_ hb (old_ hres)
      obtain ⟨s0, s1, s2, s3, s4, sf⟩ := five_ hres1
      have hkb := below_ hb (new_ _ _)
      obtain ⟨t0, t1, t2, t3, t4, tf⟩ := five_ hkb
      have hfop1 := (hb.cell (p := ⟨w.heap.size, 0, none⟩) (by simp; omega)).trans ((World.cell?_alloc_lt wr _ ⟨w.heap.size, 0, none⟩ (by simp; have := blt_ hres; omega)).trans hfop)
      generalize given nm2 x k = kx at *
      have H1 := Lib.hid hr
      have H2 := Lib.hid hb
      have H0 := blt_ hkb
      have H00 := blt_ hres
      clear hr hb hk hres hfop r0 r1 r2 r3 r4 rf e0 e1 e2 e3 e4
      have hz0 : w.heap.size + 1 < w1.heap.size := by omega
      have hz1 : w.heap.size < w1.heap.size := by omega
      have hne : ¬ w.heap.size = wr.heap.size := by omega
      have hne1 : ¬ w.heap.size + 1 = wr.heap.size := by omega
      have hne2 : ¬ wr.heap.size = w.heap.size + 1 := by omega
      have hne3 : ¬ wr.heap.size = w.heap.size := by omega
      have HB2 := Lib.hid (show Chg (fun i => w.heap.size ≤ i) w w1 from (Chg.of_below (bthen hag ((Below.refl _ _).alloc (Nat.le_refl _) _))).then H2.out)
      have hbk : ∀ v0 v1 v2 v3 v4 b, b < w1.heap.size → b ≠ wr.heap.size → (((((w1.setCell ⟨wr.heap.size, 0, none⟩ v0).setCell ⟨wr.heap.size, 1, none⟩ v1).setCell ⟨wr.heap.size, 2, none⟩ v2).setCell ⟨wr.heap.size, 3, none⟩ v3).setCell ⟨wr.heap.size, 4, none⟩ v4).heap[b]? = w1.heap[b]? := fun v0 v1 v2 v3 v4 b h1 h2 => (chg5 (T := fun i => i = wr.heap.size) rfl v0 v1 v2 v3 v4).block b h1 h2
      have HBK := Lib.hid hbk
      clear hbk
      by_cases hkz : kx.op = 1
      · have hz : (kx.op == 1) = true := by simp [hkz]
        clear hkz
        go_wp2_with fail
        refine bodyPost_ret (v := .agg #[.int .i64 kx.op, .string kx.name, .int .i64 kx.cmp, .int .i64 kx.n, .slice A1 kx.kids.length c1]) (by simp [results, Tryz.results45, go_sem, s0, s1, s2, s3, s4]) rfl ?_
        rw [joinF_hit HK.out HN.out (by exact hz)]
        refine hit_post (T := fun i => i = wr.heap.size ∨ i = w.heap.size + 1) H1.out ?_ ?_ ?_ ?_
        · simp; omega
        · intro i hi; simp; omega
        · with_reducible (refine chg55 ?_ ?_ _ _ _ _ _ _ _ _ _ _)
          · exact .inl rfl
          · exact .inr rfl
        · refine Chg.below (T := fun i => w.heap.size ≤ i) (Chg.trans (T2 := fun i => w.heap.size ≤ i) (HB2.out) (by with_reducible (exact chg55 hsz (Nat.le_succ _) _ _ _ _ _ _ _ _ _ _)) (fun _ _ h => h)) (fun i hi h => by omega)
      · have hz : (kx.op == 1) = false := by simp [hkz]
        clear hkz
        have hCa : Chg (fun _ => False) wr w1 := (Chg.alloc (Chg.refl _ _) _).then H2.out
        have hCb : ∀ v0 v1 v2 v3 v4, Chg (fun _ => False) wr (((((w1.setCell ⟨wr.heap.size, 0, none⟩ v0).setCell ⟨wr.heap.size, 1, none⟩ v1).setCell ⟨wr.heap.size, 2, none⟩ v2).setCell ⟨wr.heap.size, 3, none⟩ v3).setCell ⟨wr.heap.size, 4, none⟩ v4) := fun v0 v1 v2 v3 v4 =>
          hCa.trans (T2 := fun i => i = wr.heap.size) (chg5 (T := fun i => i = wr.heap.size) rfl v0 v1 v2 v3 v4) (fun i hi e => by omega)
        have HCb := Lib.hid hCb
        clear hCa hCb
        by_cases hku : kx.op = 2
        · have hu : (kx.op == 2) = true := by simp [hku]
          clear hku
          go_wp2_with fail
          go_roundw
          case rel =>
            refine ⟨j + 1, by omega, by go_num, rel_drop HA HN HO HB HK (by exact hz) (by exact hu) (HCb.out _ _ _ _ _) ?_ ?_⟩
            · exact (HBK.out _ _ _ _ _ _ hz0 hne1).trans hres1
            · exact (World.cell?_of_block (HBK.out _ _ _ _ _ _ hz1 hne)).trans hfop1
          case measure => simp [intOf]; omega
        · have hu : (kx.op == 2) = false := by simp [hku]
          clear hku
          have hO : OwnAt (((((w1.setCell ⟨wr.heap.size, 0, none⟩ (.int .i64 kx.op)).setCell ⟨wr.heap.size, 1, none⟩ (.string kx.name)).setCell ⟨wr.heap.size, 2, none⟩ (.int .i64 kx.cmp)).setCell ⟨wr.heap.size, 3, none⟩ (.int .i64 kx.n)).setCell ⟨wr.heap.size, 4, none⟩ (.slice A1 kx.kids.length c1)) (w.heap.size + 2) 24 5 (elemR S w wr u10 d) u10 acc :=
            HO.out.keep (fun k _ hlt => (HCb.out _ _ _ _ _).block k hlt (fun h => h)) (fun _ _ _ h => h)
          have HO2 := Lib.hid hO
          clear hO
          have hal : acc.length ≤ 200 := by rw [HA.out]; refine Nat.le_trans (List.length_filter_le _ _) ?_; simp; omega
          go_wp2_with (at_builtin; refine app_one (R := elemR S w wr u10 d) (w.heap.size + 2) rfl (.tmp 73) (.tmp 75) 22 24 _ 5 64 rfl Tryz.underlying22 info24 rfl (by decide) (by decide) u10 acc kx (fv kx A1 c1) rfl w1.heap.size rfl ?c4 rfl (fv_one _ _ _) HO2.out ?c5 ?c6 ?_)
          case c4 => simp
          case c5 => simp; omega
          case c6 => omega
          intro v1 W2 hown hg hat
          have hge := own_ge HO.out
          have hk1 : ∀ bb, bb < wr.heap.size → bb ≠ wr.heap.size → some bb ≠ u10.ownBlock → W2.heap[bb]? = w1.heap[bb]? := fun bb h1 h2 h3 => (hg.block bb (by simp; omega) h3).trans (HBK.out _ _ _ _ _ bb (by omega) h2)
          have hnr : ∀ bb, bb < w.heap.size + 2 → some bb ≠ u10.ownBlock := fun bb h1 e => by have := hge bb e.symm; omega
          have R := rel_keep (T := fun i => i = wr.heap.size) HA HN HO HB HK hz hu H1.out (by omega) (by simp) (fun i hi => by subst hi; simp) (HCb.out _ _ _ _ _) (chg5 (T := fun i => i = wr.heap.size) rfl _ _ _ _ _) hown hg (by simpa using hat)
            ((hk1 _ (by omega) hne1 (hnr _ (by omega))).trans hres1) ((World.cell?_of_block (a := ⟨w.heap.size, 0, none⟩) (hk1 w.heap.size (by omega) hne (hnr _ (by omega)))).trans hfop1)
          clear hown hg hat hk1 hnr hge HO2 HCb HBK HB2 H1 H2 HK HB HO HN HA
          go_wp2_with fail
          go_roundw
          case rel => exact ⟨j + 1, by omega, by go_num, R⟩
          case measure => simp [intOf]; omega
    · obtain rfl : j = ks.length := by omega
      obtain ⟨A', c', rfl⟩ := HO.out.shape
      have hal : acc.length ≤ 200 := by rw [HA.out]; refine Nat.le_trans (List.length_filter_le _ _) ?_; simp; omega
      have HJ := Lib.hid (joinF_end (gs := ks.map fun k => given nm2 x k) (op := 6) (by simpa using HA.out) (by simpa using HN.out))
      have H00 := blt_ hres
      have hz0 : w.heap.size < wr.heap.size := by omega
      clear HA HN hk
      match acc, HO, HJ, hal with
      | [], HO, HJ, _ =>
        dsimp only [List.length_nil]
        go_wp2_with fail
        refine bodyPost_ret (v := .agg #[.int .i64 2, .string ⟨#[]⟩, .int .i64 0, .int .i64 0, .slice none 0 0]) (by simp [results, Tryz.results45, go_sem, r0, r1, r2, r3, r4]) rfl ?_
        rw [HJ.out]
        exact ⟨none, 0, rfl, knownF_at _ _ d false, store5 HB.out (Nat.le_succ _) _ _ _ _ _⟩
      | [g], HO, HJ, _ =>
        obtain ⟨gb, gc, hv, _, hgb, hgl, _, _, hcell⟩ := HO.out.at_ (by simp)
        have hv2 := hv
        injection hv2 with hA2 _ hc2
        subst hA2 hc2
        obtain ⟨cs, _, ⟨A1, c1, rfl, hg⟩, hcc⟩ := hcell 0 g rfl
        have e0 := hcc 0 _ rfl
        have e1 := hcc 1 _ rfl
        have e2 := hcc 2 _ rfl
        have e3 := hcc 3 _ rfl
        have e4 := hcc 4 _ rfl
        simp only [Nat.zero_mul, Nat.zero_add, Nat.add_zero] at e0 e1 e2 e3 e4
        have HG := Lib.hid hg
        clear hg hcell hcc hv
        dsimp only [List.length_cons, List.length_nil]
        go_wp2_with fail
        refine bodyPost_ret (v := .agg #[.int .i64 g.op, .string g.name, .int .i64 g.cmp, .int .i64 g.n, .slice A1 g.kids.length c1]) (by simp [results, Tryz.results45, go_sem, r0, r1, r2, r3, r4]) rfl ?_
        rw [HJ.out]
        refine elem_post (T := fun i => i = w.heap.size + 1) HG.out ?_ (fun i hi => (own_ge HO.out i hi).1) (fun i _ hi => by omega) (store5 HB.out (Nat.le_succ _) _ _ _ _ _)
        with_reducible (refine chg5 ?_ _ _ _ _ _)
        rfl
      | g1 :: g2 :: gr, HO, HJ, hal =>
        have hl0 : (((g1 :: g2 :: gr).length : Int) == 0) = false := by simp; omega
        have hl1 : (((g1 :: g2 :: gr).length : Int) == 1) = false := by simp; omega
        obtain ⟨m, hm⟩ : ∃ m, m = (g1 :: g2 :: gr).length := ⟨_, rfl⟩
        rw [← hm] at hl0 hl1 ⊢
        have HM := Lib.hid hm
        clear hm
        go_wp2_with fail
        refine bodyPost_ret (v := .agg #[.int .i64 6, .string ⟨#[]⟩, .int .i64 0, .int .i64 0, .slice A' m c']) (by simp [results, Tryz.results45, go_sem, r0, r1, r2, r3, r4]) rfl ?_
        rw [HJ.out, HM.out]
        refine row_post (T := fun i => i = w.heap.size + 1) (acc := g1 :: g2 :: gr) HO.out (.inr rfl) hal ?_ (fun i _ hi => by omega) (store5 HB.out (Nat.le_succ _) _ _ _ _ _)
        with_reducible (refine chg5 ?_ _ _ _ _ _)
        rfl
/-- What 'given' asks of a formula. -/
def FmOk (f : Fm) : Prop := (f.op = 4 → f.kids.length = 1) ∧ f.kids.length ≤ 200 ∧ ∀ k ∈ f.kids, FmOk k
termination_by f
decreasing_by (cases f; simp_wf; rename_i h; have := List.sizeOf_lt_of_mem h; simp_all; omega)
theorem fm_form {S : Nat → Prop} {w : World} {d : Nat} {f : Fm} {cs : List Value} (h : FmR S w d f cs) : ∃ A c, cs = fv f A c := by
  cases d with
  | zero => exact h.elim
  | succ d =>
    obtain ⟨v4, rfl, _, _, _, _, A4, c4, rfl, _⟩ := h
    exact ⟨A4, c4, rfl⟩
theorem given_same {S : Nat → Prop} {w : World} {d : Nat} {f : Fm} {A : Option Addr} {c : Nat} {w' : World} (h : FmR S w d f (fv f A c)) (hb : Below w.heap.size w w') : GivenPost S w d f (.returned (.agg #[.int .i64 f.op, .string f.name, .int .i64 f.cmp, .int .i64 f.n, .slice A f.kids.length c])) w' :=
  ⟨A, c, rfl, h.keep hb.size (Agree.of_below hb) (fun _ hb hs => .inl ⟨hs, hb⟩), hb⟩
theorem str_eq {a b : ByteArray} : (a.toList == b.toList) = decide (a = b) := by
  rw [Bool.eq_iff_iff]
  simp only [beq_iff_eq, decide_eq_true_eq]
  constructor
  · intro h
    apply ByteArray.ext
    rw [Go.ByteArray.toList_eq, Go.ByteArray.toList_eq] at h
    exact Array.toList_inj.1 h
  · rintro rfl; rfl
set_option maxHeartbeats 400000 in
theorem given_any (nm2 : ByteArray) (x : Int) : ∀ (d : Nat) (S : Nat → Prop) (w : World) (f : Fm) (A : Option Addr) (c : Nat), FmR S w d f (fv f A c) → FmOk f →
    Calls Tryz.prog 45 #[.agg #[.int .i64 f.op, .string f.name, .int .i64 f.cmp, .int .i64 f.n, .slice A f.kids.length c], .string nm2, .int .i64 x] w (GivenPost S w d (given nm2 x f)) := by
  intro d
  induction d with
  | zero => intro S w f A c h; exact h.elim
  | succ d ih =>
    intro S w f A c h hok
    rw [FmOk] at hok
    obtain ⟨h4, hl, hks⟩ := hok
    obtain ⟨op, nm, cp, n, ks⟩ := f
    have h0 := h
    obtain ⟨v4, hv, _, _, _, _, A4, c4, rfl, _, hrow⟩ := h
    simp only [fv, List.cons.injEq, Value.slice.injEq, and_true, true_and] at hv
    obtain ⟨rfl, rfl⟩ := hv
    dsimp only at *
    rw [given]
    dsimp only
    by_cases e3 : op = 3
    · subst e3
      rw [if_pos rfl]
      by_cases hn : nm = nm2
      · rw [if_pos hn]
        exact (given_test cp n x nm nm2 _ _ _ w (by rw [str_eq]; simp [hn])).mono fun e w' ⟨he, hb⟩ => ⟨none, 0, he, knownF_at _ _ d _, hb⟩
      · rw [if_neg hn]
        exact (given_test_no cp n x nm nm2 _ _ _ w (by rw [str_eq]; simp [hn])).mono fun e w' ⟨he, hb⟩ => he ▸ given_same h0 hb
    rw [if_neg e3]
    by_cases e4 : op = 4
    · subst e4
      rw [if_pos rfl]
      have h1 := h4 rfl
      match ks, h1 with
      | [k], _ =>
        obtain ⟨b, o, rfl, hS, hbl, hcell⟩ := hrow.2 (by simp)
        obtain ⟨cs, _, hR, hcc⟩ := hcell 0 k rfl
        obtain ⟨A', c', rfl⟩ := fm_form hR
        have e0 := hcc 0 _ rfl
        have e1 := hcc 1 _ rfl
        have e2 := hcc 2 _ rfl
        have e3 := hcc 3 _ rfl
        have e4 := hcc 4 _ rfl
        simp only [Nat.zero_mul, Nat.add_zero] at e0 e1 e2 e3 e4
        cases d with
        | zero => exact hR.elim
        | succ d =>
          exact given_not S d k (given nm2 x k) cp n x nm nm2 b o c w _ e0 e1 e2 e3 e4 (fun w0 hw0 => ih _ w0 k A' c' (hR.keep hw0.size (Agree.of_below hw0) (fun _ hb hs => ⟨hs, hb⟩)) (hks k (by simp)))
    rw [if_neg e4]
    by_cases e5 : op = 5
    · subst e5
      rw [if_pos (.inl rfl)]
      exact given_join5 S d ks cp n x nm nm2 A c w hrow hl (fun S' w0 k A' c' hk hr => ih S' w0 k A' c' hr (hks k hk))
    by_cases e6 : op = 6
    · subst e6
      rw [if_pos (.inr rfl)]
      exact given_join6 S d ks cp n x nm nm2 A c w hrow hl (fun S' w0 k A' c' hk hr => ih S' w0 k A' c' hr (hks k hk))
    rw [if_neg (by omega)]
    exact (given_other op cp n x nm nm2 A ks.length c w (by simp [e3]) (by simp [e4]) (by simp [e5]) (by simp [e6])).mono fun e w' ⟨he, hb⟩ => he ▸ given_same h0 hb
end Go.Proofs.YtfajbcjcigajfaaGreatDoor
