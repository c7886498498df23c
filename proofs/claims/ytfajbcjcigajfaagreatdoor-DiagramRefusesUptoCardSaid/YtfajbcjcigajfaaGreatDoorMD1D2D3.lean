/- Part of the proof of a law of customhouselaw26: the texts D1 D2 D3. -/
import Derived.BigRegion
import Derived.Laws.EntriesVeiled
import Derived.Test.YtfajbcjcigajfaaGreatDoorMC8C9C10
namespace Go.Proofs.YtfajbcjcigajfaaGreatDoor
open Go.RowKit

def BoolE (x : Bool) (w : World) (e : Ending) (w' : World) : Prop := e = .returned (.bool x) ∧ Below w.heap.size w w'
set_option maxRecDepth 100000 in
set_option maxHeartbeats 1000000 in
theorem identifier_any (s : ByteArray) (w : World) (hs : s.size ≤ 140737488351232) :
    Calls Tryz.prog 99 #[.string s] w (BoolE (nameB s) w) := by
  go_enter Tryz.func99, Tryz.ntmps99
  go_wp2_with fail
  refine (lex_any s w hs).mono ?_
  rintro e w1 ⟨v, l, er, a, rfl, ho, hl, h1, h2, hb⟩
  have HB := Lib.hid hb
  have H2 := Lib.hid h2
  clear hb h2
  by_cases he : er = 0
  · subst he
    have H1 := Lib.hid (h1 rfl)
    clear h1
    by_cases hlen : l.length = 1
    · obtain ⟨x, rfl⟩ : ∃ x, l = [x] := List.length_eq_one_iff.1 hlen
      obtain ⟨g, c, rfl, hc, _, hg, _, _, hcell⟩ := ho.at_ (by simp)
      obtain ⟨cs, _, rfl, hcc⟩ := hcell 0 x rfl
      have e0 := hcc 0 _ rfl
      have e3 := hcc 3 _ rfl
      simp only [Nat.zero_mul, Nat.zero_add] at e0 e3
      have hc1 : (1 : Int) ≤ (c : Int) := by simp at hc; omega
      clear hcell hcc ho
      dsimp only [List.length_cons, List.length_nil] at *
      by_cases hk : x.k = 1
      · have hk' : (x.k == 1) = true := by simp [hk]
        have hst := str_eq (a := x.t) (b := s)
        by_cases ht : x.t = s
        · rw [decide_eq_true ht] at hst
          go_wp2_with fail
          go_ret
          exact ⟨by rw [H1.out x (by simp) hk ht]; rfl, HB.out⟩
        · have ht0 := ht
          rw [decide_eq_false ht] at hst
          have HT := Lib.hid ht0
          clear ht ht0
          go_wp2_with fail
          go_ret
          refine ⟨?_, HB.out⟩
          cases hn : nameB s
          · rfl
          · obtain ⟨_, a, n, h⟩ := H2.out hn
            simp at h
            exact absurd (by rw [h]) HT.out
      · have hk' : (x.k == 1) = false := by simp [hk]
        have HK := Lib.hid hk
        clear hk
        go_wp2_with fail
        go_ret
        refine ⟨?_, HB.out⟩
        cases hn : nameB s
        · rfl
        · obtain ⟨_, a, n, h⟩ := H2.out hn
          simp at h
          exact absurd (by rw [h]) HK.out
    · obtain ⟨A, c, rfl⟩ := ho.shape
      have hlen' : ((l.length : Int) == 1) = false := by simp; omega
      have HK := Lib.hid hlen
      clear hlen ho
      go_wp2_with fail
      go_ret
      refine ⟨?_, HB.out⟩
      cases hn : nameB s
      · rfl
      · obtain ⟨_, a, n, h⟩ := H2.out hn
        exact absurd (by rw [h]; rfl) HK.out
  · have he' : (er == 0) = false := by simp [he]
    have HK := Lib.hid he
    clear he h1 ho
    go_wp2_with fail
    go_ret
    refine ⟨?_, HB.out⟩
    cases hn : nameB s
    · rfl
    · exact absurd (H2.out hn).1 HK.out
end Go.Proofs.YtfajbcjcigajfaaGreatDoor
namespace Go.Proofs.YtfajbcjcigajfaaGreatDoor
open Go.RowKit

def keyL : List ByteArray := [⟨#[111, 114]⟩, ⟨#[97, 110, 100]⟩, ⟨#[110, 111, 116]⟩, ⟨#[116, 114, 117, 101]⟩, ⟨#[102, 97, 108, 115, 101]⟩]
def keyB (s : ByteArray) : Bool := Lib.containsS keyL s
set_option maxRecDepth 100000 in
set_option maxHeartbeats 1000000 in
theorem key_any (s : ByteArray) (w : World) :
    Calls Tryz.prog 100 #[.string s] w (BoolE (keyB s) w) := by
  go_enter Tryz.func100, Tryz.ntmps100
  go_wp2_with fail
  refine (Tryz.slices_Contains_string w.heap.size 0 5 5 keyL s _ (by decide) (by decide) ?_).mono ?_
  · intro j hj
    have hj : j < 5 := hj
    rcases (show j = 0 ∨ j = 1 ∨ j = 2 ∨ j = 3 ∨ j = 4 by omega) with rfl | rfl | rfl | rfl | rfl <;> simp [go_sem, keyL]
  · rintro e w1 ⟨rfl, rfl⟩
    go_wp2_with fail
    go_ret
    exact ⟨rfl, (Below.refl _ _).alloc (Nat.le_refl _) _⟩
/-- A node of the required form, its parts counted. -/
def formedB (op : Int) (nm : ByteArray) (cp n : Int) (k : Nat) : Bool :=
  if op = 3 then decide (k = 0) && decide (1 ≤ cp) && decide (cp ≤ 6) && nameB nm && !keyB nm
  else if nm.toList.isEmpty = true ∧ cp = 0 ∧ n = 0 then
    (if op = 1 ∨ op = 2 then decide (k = 0) else if op = 4 then decide (k = 1) else decide ((op = 5 ∨ op = 6) ∧ 2 ≤ k))
  else false
theorem box_below (w : World) (o : Obj) : Below w.heap.size w (w.alloc o) := (Below.refl _ _).alloc (Nat.le_refl _) _
set_option maxRecDepth 100000 in
set_option maxHeartbeats 2000000 in
theorem formed_any (op : Int) (nm : ByteArray) (cp n : Int) (A : Option Addr) (k c : Nat) (w : World) (hs : nm.size ≤ 140737488351232) :
    Calls Tryz.prog 52 #[.agg #[.int .i64 op, .string nm, .int .i64 cp, .int .i64 n, .slice A k c]] w (BoolE (formedB op nm cp n k) w) := by
  by_cases h3 : op = 3
  · subst h3
    by_cases hk : k = 0
    · subst hk
      by_cases hc1 : 1 ≤ cp
      · by_cases hc6 : cp ≤ 6
        · have HF := Lib.hid (show formedB 3 nm cp n 0 = (nameB nm && !keyB nm) by simp [formedB, hc1, hc6])
          go_enter Tryz.func52, Tryz.ntmps52
          go_wp2_with fail
          refine (identifier_any nm _ hs).mono ?_
          rintro e w1 ⟨rfl, hb⟩
          have HB := Lib.hid (bthen (box_below _ _) hb)
          have hv := (new_ w (.cells #[.int .i64 3, .string nm, .int .i64 cp, .int .i64 n, .slice A 0 c] 24))
          obtain ⟨s0, s1, s2, s3, s4, _⟩ := five_ (below_ hb hv)
          clear hb hv
          cases hn : nameB nm
          · have HF2 := Lib.hid (show formedB 3 nm cp n 0 = false by rw [HF.out, hn]; rfl)
            clear hn HF
            go_wp2_with fail
            go_ret
            exact ⟨by rw [HF2.out]; rfl, HB.out⟩
          · have HF2 := Lib.hid (show formedB 3 nm cp n 0 = !keyB nm by rw [HF.out, hn]; rfl)
            clear hn HF
            go_wp2_with fail
            refine (key_any nm _).mono ?_
            rintro e w2 ⟨rfl, hb2⟩
            have HB2 := Lib.hid (bthen HB.out hb2)
            clear hb2 HB s0 s1 s2 s3 s4
            go_wp2_with fail
            go_ret
            exact ⟨by rw [HF2.out]; rfl, HB2.out⟩
        · have hb1 : decide (cp ≤ 6) = false := decide_eq_false hc6
          skip
          have HF := Lib.hid (show formedB 3 nm cp n 0 = false by simp [formedB, hb1])
          go_enter Tryz.func52, Tryz.ntmps52
          go_wp2_with fail
          go_ret
          exact ⟨by rw [HF.out]; rfl, box_below _ _⟩
      · have hb1 : decide (1 ≤ cp) = false := decide_eq_false hc1
        skip
        have HF := Lib.hid (show formedB 3 nm cp n 0 = false by simp [formedB, hb1])
        go_enter Tryz.func52, Tryz.ntmps52
        go_wp2_with fail
        go_ret
        exact ⟨by rw [HF.out]; rfl, box_below _ _⟩
    · have hk' : ((k : Int) == 0) = false := by simp [hk]
      skip
      have HF := Lib.hid (show formedB 3 nm cp n k = false by simp [formedB, hk])
      go_enter Tryz.func52, Tryz.ntmps52
      go_wp2_with fail
      go_ret
      exact ⟨by rw [HF.out]; rfl, box_below _ _⟩
  · have h3' : (op == 3) = false := by simp [h3]
    cases hn : nm.toList.isEmpty
    · have HF0 := Lib.hid (show formedB op nm cp n k = false by simp [formedB, h3, hn])
      go_enter Tryz.func52, Tryz.ntmps52
      go_wp2_with fail
      go_ret
      exact ⟨by rw [HF0.out]; rfl, box_below _ _⟩
    · by_cases hc : cp = 0
      · subst hc
        by_cases hn0 : n = 0
        · subst hn0
          by_cases h1 : op = 1
          · subst h1
            skip
            have HF := Lib.hid (show formedB 1 nm 0 0 k = ((k : Int) == 0) by have hh : ∀ b : Bool, (b = true ↔ k = 0) → b = decide (k = 0) := (fun b h => by cases b <;> simp_all); simp only [formedB, hn]; simp; exact (hh _ (by simp)).symm )
            go_enter Tryz.func52, Tryz.ntmps52
            go_wp2_with fail
            go_ret
            exact ⟨by rw [HF.out]; rfl, box_below _ _⟩
          · by_cases h2 : op = 2
            · subst h2
              skip
              have HF := Lib.hid (show formedB 2 nm 0 0 k = ((k : Int) == 0) by have hh : ∀ b : Bool, (b = true ↔ k = 0) → b = decide (k = 0) := (fun b h => by cases b <;> simp_all); simp only [formedB, hn]; simp; exact (hh _ (by simp)).symm )
              go_enter Tryz.func52, Tryz.ntmps52
              go_wp2_with fail
              go_ret
              exact ⟨by rw [HF.out]; rfl, box_below _ _⟩
            · by_cases h4 : op = 4
              · subst h4
                skip
                have HF := Lib.hid (show formedB 4 nm 0 0 k = ((k : Int) == 1) by have hh : ∀ b : Bool, (b = true ↔ k = 1) → b = decide (k = 1) := (fun b h => by cases b <;> simp_all); simp only [formedB, hn]; simp; exact (hh _ (by simp; omega)).symm )
                go_enter Tryz.func52, Tryz.ntmps52
                go_wp2_with fail
                go_ret
                exact ⟨by rw [HF.out]; rfl, box_below _ _⟩
              · have h1' : (op == 1) = false := by simp [h1]
                have h2' : (op == 2) = false := by simp [h2]
                have h4' : (op == 4) = false := by simp [h4]
                by_cases h5 : op = 5
                · subst h5
                  skip
                  have HF := Lib.hid (show formedB 5 nm 0 0 k = decide ((2 : Int) ≤ k) by simp [formedB, hn]; omega)
                  go_enter Tryz.func52, Tryz.ntmps52
                  go_wp2_with fail
                  go_ret
                  exact ⟨by rw [HF.out]; rfl, box_below _ _⟩
                · have h5' : (op == 5) = false := by simp [h5]
                  by_cases h6 : op = 6
                  · subst h6
                    skip
                    have HF := Lib.hid (show formedB 6 nm 0 0 k = decide ((2 : Int) ≤ k) by simp [formedB, hn]; omega)
                    go_enter Tryz.func52, Tryz.ntmps52
                    go_wp2_with fail
                    go_ret
                    exact ⟨by rw [HF.out]; rfl, box_below _ _⟩
                  · have h6' : (op == 6) = false := by simp [h6]
                    skip
                    have HF := Lib.hid (show formedB op nm 0 0 k = false by simp [formedB, hn, h1, h2, h3, h4, h5, h6])
                    go_enter Tryz.func52, Tryz.ntmps52
                    go_wp2_with fail
                    go_ret
                    exact ⟨by rw [HF.out]; rfl, box_below _ _⟩
        · have hn' : (n != 0) = true := by simp [hn0]
          skip
          have HF := Lib.hid (show formedB op nm 0 n k = false by simp [formedB, h3, hn0])
          go_enter Tryz.func52, Tryz.ntmps52
          go_wp2_with fail
          go_ret
          exact ⟨by rw [HF.out]; rfl, box_below _ _⟩
      · have hc' : (cp != 0) = true := by simp [hc]
        skip
        have HF := Lib.hid (show formedB op nm cp n k = false by simp [formedB, h3, hc])
        go_enter Tryz.func52, Tryz.ntmps52
        go_wp2_with fail
        go_ret
        exact ⟨by rw [HF.out]; rfl, box_below _ _⟩
end Go.Proofs.YtfajbcjcigajfaaGreatDoor
namespace Go.Proofs.YtfajbcjcigajfaaGreatDoor
open Go.RowKit

def nodesF (f : Fm) : Nat := 1 + (f.kids.map fun k => nodesF k).sum
termination_by f
decreasing_by (cases f; simp_wf; rename_i h; have := List.sizeOf_lt_of_mem h; simp_all; omega)
def depthF (f : Fm) : Nat := 1 + (f.kids.map fun k => depthF k).foldr max 0
termination_by f
decreasing_by (cases f; simp_wf; rename_i h; have := List.sizeOf_lt_of_mem h; simp_all; omega)
/-- A formula, as an argument. -/
abbrev fmV (f : Fm) (A : Option Addr) (c : Nat) : Value := .agg #[.int .i64 f.op, .string f.name, .int .i64 f.cmp, .int .i64 f.n, .slice A f.kids.length c]
theorem kid_cells {S : Nat → Prop} {w : World} {d : Nat} {A : Option Addr} {ks : List Fm} (h : RowAt S w 5 (FmR S w d) A ks) {j : Nat} (hj : j < ks.length) :
    ∃ b o A' c', A = some ⟨b, o, none⟩ ∧ S b ∧ b < w.heap.size ∧ FmR S w d ks[j] (fv ks[j] A' c') ∧
      w.cell? ⟨b, o + j * 5, none⟩ = some (.int .i64 ks[j].op) ∧ w.cell? ⟨b, o + j * 5 + 1, none⟩ = some (.string ks[j].name) ∧ w.cell? ⟨b, o + j * 5 + 2, none⟩ = some (.int .i64 ks[j].cmp) ∧ w.cell? ⟨b, o + j * 5 + 3, none⟩ = some (.int .i64 ks[j].n) ∧ w.cell? ⟨b, o + j * 5 + 4, none⟩ = some (.slice A' ks[j].kids.length c') := by
  obtain ⟨b, o, rfl, hS, hb, hc⟩ := h.2 (by omega)
  obtain ⟨cs, _, hR, hcc⟩ := hc j ks[j] (List.getElem?_eq_getElem hj)
  obtain ⟨A', c', rfl⟩ := fm_form hR
  exact ⟨b, o, A', c', rfl, hS, hb, hR, hcc 0 _ rfl, hcc 1 _ rfl, hcc 2 _ rfl, hcc 3 _ rfl, hcc 4 _ rfl⟩
theorem fm_kids {S : Nat → Prop} {w : World} {d : Nat} {f : Fm} {A : Option Addr} {c : Nat} (h : FmR S w (d + 1) f (fv f A c)) : RowAt S w 5 (FmR S w d) A f.kids ∧ I64 f.op ∧ I64 f.cmp ∧ I64 f.n ∧ f.name.size ≤ 140737488351232 := by
  obtain ⟨v4, he, h1, h2, h3, h4, A', c', rfl, _, h5⟩ := h
  simp only [fv, List.cons.injEq, Value.slice.injEq] at he
  obtain ⟨_, _, _, _, ⟨rfl, _, _⟩, _⟩ := he
  exact ⟨h5, h1, h2, h3, h4⟩
theorem RowAt.keep' {S : Nat → Prop} {w w' : World} {d : Nat} {A : Option Addr} {ks : List Fm} (h : RowAt S w 5 (FmR S w d) A ks) (hw : w.heap.size ≤ w'.heap.size) (m : Agree S w w') : RowAt (fun b => S b ∧ b < w.heap.size) w' 5 (FmR (fun b => S b ∧ b < w.heap.size) w' d) A ks :=
  h.keep hw m (fun _ hb hs => ⟨hs, hb⟩) (fun _ _ _ hx => hx.keep hw m (fun _ hb hs => ⟨hs, hb⟩))
/-- The cells of a closure that counts. -/
structure SzAt (w : World) (bn bd bv : Nat) (n dd : Int) : Prop where
  n : w.heap[bn]? = some (.cells #[.int .i64 n] 3 (0, 0))
  d : w.heap[bd]? = some (.cells #[.int .i64 dd] 3 (0, 0))
  v : w.heap[bv]? = some (.cells #[.func (Fn.func 122) #[] #[.pointer (some ⟨bn, 0, none⟩), .pointer (some ⟨bd, 0, none⟩), .pointer (some ⟨bv, 0, none⟩)]] 151 (0, 0))
  nd : bn ≠ bd
  nv : bn ≠ bv
  dv : bd ≠ bv
theorem nodesF_eq (f : Fm) : nodesF f = 1 + (f.kids.map nodesF).sum := by rw [nodesF]
theorem depthF_eq (f : Fm) : depthF f = 1 + (f.kids.map depthF).foldr max 0 := by rw [depthF]
theorem foldr_max_le {l : List Nat} {a : Nat} : l.foldr max 0 ≤ a ↔ ∀ x ∈ l, x ≤ a := by
  induction l with
  | nil => simp
  | cons b l ih => simp only [List.foldr_cons, List.forall_mem_cons, Nat.max_le, ih]
theorem le_sum {l : List Nat} {a : Nat} (h : a ∈ l) : a ≤ l.sum := by
  induction l with
  | nil => simp at h
  | cons b l ih =>
    rw [List.sum_cons]
    rcases List.mem_cons.1 h with rfl | h
    · omega
    · have := ih h; omega
theorem depth_nodes : ∀ (n : Nat) (f : Fm), nodesF f ≤ n → depthF f ≤ nodesF f
  | 0, f, h => by rw [nodesF_eq] at h; omega
  | n + 1, f, h => by
    rw [nodesF_eq] at h ⊢
    rw [depthF_eq]
    have : (f.kids.map depthF).foldr max 0 ≤ (f.kids.map nodesF).sum := by
      rw [foldr_max_le]
      intro x hx
      obtain ⟨k, hk, rfl⟩ := List.mem_map.1 hx
      have h1 : nodesF k ≤ (f.kids.map nodesF).sum := le_sum (List.mem_map.2 ⟨k, hk, rfl⟩)
      have := depth_nodes n k (by omega)
      omega
    omega
theorem nodes_kid {f k : Fm} (h : k ∈ f.kids) : nodesF k + 1 ≤ nodesF f := by
  rw [nodesF_eq f]
  have h1 : nodesF k ≤ (f.kids.map nodesF).sum := le_sum (List.mem_map.2 ⟨k, h, rfl⟩)
  omega
theorem nodes_take {ks : List Fm} {j : Nat} (hj : j < ks.length) : ((ks.take (j + 1)).map nodesF).sum = ((ks.take j).map nodesF).sum + nodesF ks[j] := by
  rw [List.take_succ_eq_append_getElem hj, List.map_append, List.sum_append]; simp
theorem depth_take {ks : List Fm} {j : Nat} (hj : j < ks.length) : ((ks.take (j + 1)).map depthF).foldr max 0 = max (((ks.take j).map depthF).foldr max 0) (depthF ks[j]) := by
  rw [List.take_succ_eq_append_getElem hj, List.map_append]
  induction (ks.take j).map depthF with
  | nil => simp
  | cons a l ih => simp only [List.cons_append, List.foldr_cons, ih]; omega
theorem kids_len (f : Fm) : f.kids.length ≤ nodesF f := by
  rw [nodesF_eq]
  have : ∀ l : List Fm, l.length ≤ (l.map nodesF).sum := by
    intro l
    induction l with
    | nil => simp
    | cons a l ih => simp only [List.length_cons, List.map_cons, List.sum_cons]; have := nodesF_eq a; omega
  have := this f.kids
  omega
theorem nodes_take_le {ks : List Fm} (j : Nat) : ((ks.take j).map nodesF).sum ≤ (ks.map nodesF).sum := by
  conv => rhs; rw [← List.take_append_drop j ks, List.map_append, List.sum_append]
  omega
theorem set_one {w : World} {b t : Nat} {a v : Value} {fr : Nat × Nat} (h : w.heap[b]? = some (.cells #[a] t fr)) : (w.setCell ⟨b, 0, none⟩ v).heap[b]? = some (.cells #[v] t fr) := by
  simp only [World.setCell, Array.getElem?_modify, h]
  simp
theorem set_oth {w : World} {b k : Nat} {v : Value} (h : k ≠ b) : (w.setCell ⟨b, 0, none⟩ v).heap[k]? = w.heap[k]? := Below.heap_setCell _ _ _ _ h
theorem SzAt.chg {w w' : World} {bn bd bv : Nat} {n dd : Int} (h : SzAt w bn bd bv n dd) (hb : Below w.heap.size w w') : SzAt w' bn bd bv n dd := ⟨below_ hb h.n, below_ hb h.d, below_ hb h.v, h.nd, h.nv, h.dv⟩
theorem SzAt.set {w : World} {bn bd bv : Nat} {n dd : Int} (h : SzAt w bn bd bv n dd) (n' d' : Int) : SzAt ((w.setCell ⟨bn, 0, none⟩ (.int .i64 n')).setCell ⟨bd, 0, none⟩ (.int .i64 d')) bn bd bv n' d' :=
  ⟨(set_oth h.nd).trans (set_one h.n), set_one ((set_oth (Ne.symm h.nd)).trans h.d), (set_oth (Ne.symm h.dv)).trans ((set_oth (Ne.symm h.nv)).trans h.v), h.nd, h.nv, h.dv⟩
set_option maxRecDepth 100000 in
set_option maxHeartbeats 2000000 in
theorem visit_any (bn bd bv : Nat) : ∀ (d : Nat) (S : Nat → Prop) (f : Fm) (A : Option Addr) (c : Nat) (n dd lv : Nat) (w : World), FmR S w d f (fv f A c) → (∀ b, S b → b ≠ bn ∧ b ≠ bd) → SzAt w bn bd bv n dd → n + nodesF f ≤ 1000000 → lv + depthF f ≤ 1000000 → dd ≤ 1000000 →
    Calls Tryz.prog 122 #[fmV f A c, .int .i64 lv, .pointer (some ⟨bn, 0, none⟩), .pointer (some ⟨bd, 0, none⟩), .pointer (some ⟨bv, 0, none⟩)] w fun e w' =>
      e = .returned (.tuple #[]) ∧ SzAt w' bn bd bv ((n + nodesF f : Nat) : Int) ((max dd (lv + depthF f - 1) : Nat) : Int) ∧ Chg (fun i => i = bn ∨ i = bd) w w' := by
  intro d
  induction d with
  | zero => intro S f A c n dd lv w h; exact h.elim
  | succ d ih =>
    intro S f A c n dd lv w h hS hz hn hl hd
    obtain ⟨hk, _⟩ := fm_kids h
    have HZ := Lib.hid hz
    obtain ⟨z0, z1⟩ := one_ hz.n
    obtain ⟨y0, y1⟩ := one_ hz.d
    obtain ⟨x0, x1⟩ := one_ hz.v
    have l1 := blt_ hz.n
    have l2 := blt_ hz.d
    have l3 := blt_ hz.v
    have hnd := hz.nd
    have hnv := hz.nv
    have hdv := hz.dv
    have hkl := kids_len f
    have HK := Lib.hid hk
    clear h hk hz
    go_enter Tryz.func122, Tryz.ntmps122
    go_wp2_with fail
    go_region
    go_wp2_with fail
    go_loopw [17] (fun v wr => ∃ j : Nat, j ≤ f.kids.length ∧ v = .int .i64 j ∧ Hid (SzAt wr bn bd bv ((n + 1 + ((f.kids.take j).map nodesF).sum : Nat) : Int) ((max (max dd lv) (lv + ((f.kids.take j).map depthF).foldr max 0) : Nat) : Int)) ∧ Hid (Chg (fun i => i = bn ∨ i = bd) w wr)) (fun v _ => f.kids.length - (intOf v).toNat)
    case atStart =>
      refine ⟨0, Nat.zero_le _, rfl, Lib.hid ?_, Lib.hid ?_⟩
      · have := (HZ.out.set ((n : Int) + 1) (max (dd : Int) (lv : Int)))
        have h2 := this.chg (((Below.refl _ _).alloc (Nat.le_refl _) (.cells #[.int .i64 f.op, .string f.name, .int .i64 f.cmp, .int .i64 f.n, .slice A f.kids.length c] 24)).drew)
        simp only [List.take_zero, List.map_nil, List.sum_nil, List.foldr_nil, Nat.add_zero]
        rw [show ((max (max dd lv) lv : Nat) : Int) = max (dd : Int) (lv : Int) by omega]
        exact h2
      · exact (((Chg.refl _ w).setCell (fun _ => .inl rfl) _).setCell (fun _ => .inr rfl) _).alloc _ |>.drew
    case round =>
      obtain ⟨j, hj, rfl, HS, HC⟩ := hrel
      by_cases hlt : j < f.kids.length
      · have hr := HK.out.keep' HC.out.size (HC.out.agree (fun i _ hs ht => by have := hS i hs; omega))
        obtain ⟨b, o, A', c', rfl, hSb, hb, hR, e0, e1, e2, e3, e4⟩ := kid_cells hr hlt
        have hmem : f.kids[j] ∈ f.kids := List.getElem_mem hlt
        have HN := Lib.hid (nodes_take hlt)
        have HD := Lib.hid (depth_take hlt)
        have HL := Lib.hid (nodes_take_le (ks := f.kids) (j + 1))
        have HL2 := Lib.hid (nodesF_eq f)
        have HL3 := Lib.hid (foldr_max_le.1 (Nat.le_refl ((f.kids.map depthF).foldr max 0)) (depthF f.kids[j]) (List.mem_map.2 ⟨_, hmem, rfl⟩))
        have HL4 := Lib.hid (depthF_eq f)
        have HL5 := Lib.hid (show ((f.kids.take j).map depthF).foldr max 0 ≤ (f.kids.map depthF).foldr max 0 from foldr_max_le.2 (fun x hx => foldr_max_le.1 (Nat.le_refl _) x (by
          obtain ⟨k, hk, rfl⟩ := List.mem_map.1 hx
          exact List.mem_map.2 ⟨k, List.mem_of_mem_take hk, rfl⟩)))
        generalize f.kids[j] = k at *
        obtain ⟨x0, x1⟩ := one_ HS.out.v
        have l3 := blt_ HS.out.v
        have HR := Lib.hid hR
        clear hR hr hmem
        go_wp2_with fail
        refine (ih (fun b => (S b ∧ b < w.heap.size) ∧ b < wr.heap.size) k A' c' (n + 1 + ((f.kids.take j).map nodesF).sum) (max (max dd lv) (lv + ((f.kids.take j).map depthF).foldr max 0)) (lv + 1) _ (HR.out.keep (by simp) (Agree.of_below (box_below _ _)) (fun _ hb hs => ⟨hs, hb⟩)) (fun b hb => hS b hb.1.1) (HS.out.chg (box_below _ _)) (by have := HN.out; have := HL.out; have := HL2.out; omega) (by have := HL3.out; have := HL4.out; omega) (by have := HL5.out; have := HL4.out; omega)).mono ?_
        rintro e w2 ⟨rfl, hz2, hc2⟩
        have HZ2 := Lib.hid hz2
        have HC2 := Lib.hid (HC.out.trans ((Chg.alloc (Chg.refl (fun i => i = bn ∨ i = bd) wr) _).trans hc2 (fun _ _ h => h)) (fun _ _ h => h))
        clear hz2 hc2 HS HC x0 x1 l3
        go_wp2_with fail
        go_roundw
        case rel =>
          refine ⟨j + 1, by omega, by go_num, ?_, HC2⟩
          have h := HZ2.out
          rw [HN.out, HD.out]
          rw [show n + 1 + (((f.kids.take j).map nodesF).sum + nodesF k) = n + 1 + ((f.kids.take j).map nodesF).sum + nodesF k by omega]
          rw [show max (max dd lv) (lv + max (((f.kids.take j).map depthF).foldr max 0) (depthF k)) = max (max (max dd lv) (lv + ((f.kids.take j).map depthF).foldr max 0)) (lv + 1 + depthF k - 1) by omega]
          exact Lib.hid h
        case measure => simp [intOf]; omega
      · obtain rfl : j = f.kids.length := by omega
        go_wp2_with fail
        go_end0
        refine ⟨rfl, ?_, HC.out⟩
        have h := HS.out
        rw [List.take_length] at h
        rw [nodesF_eq f, depthF_eq f]
        rw [show n + (1 + (f.kids.map nodesF).sum) = n + 1 + (f.kids.map nodesF).sum by omega, show max dd (lv + (1 + (f.kids.map depthF).foldr max 0) - 1) = max (max dd lv) (lv + (f.kids.map depthF).foldr max 0) by omega]
        exact h
set_option maxRecDepth 100000 in
set_option maxHeartbeats 1000000 in
theorem size_any (S : Nat → Prop) (d : Nat) (f : Fm) (A : Option Addr) (c : Nat) (w : World) (h : FmR S w d f (fv f A c)) (hn : nodesF f ≤ 100000) :
    Calls Tryz.prog 98 #[fmV f A c] w fun e w' => e = .returned (.tuple #[.int .i64 (nodesF f), .int .i64 (depthF f)]) ∧ Below w.heap.size w w' := by
  go_enter Tryz.func98, Tryz.ntmps98
  go_wp2_with fail
  have hb1 : Below w.heap.size w ((((w.alloc (.cells #[.int .i64 f.op, .string f.name, .int .i64 f.cmp, .int .i64 f.n, .slice A f.kids.length c] 24)).alloc (.cells #[.int .i64 0] 3)).alloc (.cells #[.int .i64 0] 3)).alloc (.cells #[.func (Fn.func 122) #[] #[.pointer (some ⟨w.heap.size + 1, 0, none⟩), .pointer (some ⟨w.heap.size + 1 + 1, 0, none⟩), .pointer (some ⟨w.heap.size + 1 + 1 + 1, 0, none⟩)]] 151)) :=
    ((((Below.refl _ _).alloc (Nat.le_refl _) _).alloc (by simp) _).alloc (by simp; omega) _).alloc (by simp; omega) _
  refine (visit_any (w.heap.size + 1) (w.heap.size + 1 + 1) (w.heap.size + 1 + 1 + 1) d (fun b => S b ∧ b < w.heap.size) f A c 0 0 1 _ (h.keep hb1.size (Agree.of_below hb1) (fun _ hb hs => ⟨hs, hb⟩)) (fun b hb => by omega) ⟨?_, ?_, ?_, by omega, by omega, by omega⟩ (by omega) (by have := depth_nodes _ f (Nat.le_refl _); omega) (by omega)).mono ?_
  · exact old_ (old_ (by simpa using new_ (w.alloc _) (.cells #[.int .i64 0] 3)))
  · exact old_ (by simpa using new_ ((w.alloc _).alloc _) (.cells #[.int .i64 0] 3))
  · simpa using new_ (((w.alloc _).alloc _).alloc _) _
  rintro e w1 ⟨rfl, hz, hc⟩
  have HB := Lib.hid (show Below w.heap.size w w1 from Chg.below (T := fun i => w.heap.size ≤ i) (Chg.trans (Chg.of_below hb1) hc (fun i _ h => by omega)) (fun i hi h => by omega))
  obtain ⟨z0, z1⟩ := one_ hz.n
  obtain ⟨y0, y1⟩ := one_ hz.d
  have l1 := blt_ hz.n
  have l2 := blt_ hz.d
  have HE := Lib.hid (show 0 + nodesF f = nodesF f ∧ max 0 (1 + depthF f - 1) = depthF f by omega)
  rw [HE.out.1] at z0
  rw [HE.out.2] at y0
  clear hz hc hb1 HE h
  go_wp2_with fail
  go_quiet (fail)
  go_wp2_with fail
  go_ret2
  exact ⟨rfl, HB.out.trans ⟨rfl, rfl, rfl, Nat.le_refl _, fun _ _ => rfl⟩⟩
end Go.Proofs.YtfajbcjcigajfaaGreatDoor
