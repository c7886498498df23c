/- Part of the proof of a law of customhouselaw26: the texts K6 K7. -/
import Derived.Shelf.SlicesE.DeleteFunc
import Derived.Test.YtfajbcjcigajfaaGreatDoorMShelf
import Derived.Test.YtfajbcjcigajfaaGreatDoorMH2H3K1
namespace Go.Proofs.YtfajbcjcigajfaaGreatDoor
open Go.RowKit

/-- What the callee is to answer at each number. -/
def AskI93 (p1 : Nat) (p : Int → Bool) (ks : List Int) (w : World) : Prop :=
  ∀ (k : Int) (w' : World), k ∈ ks → Below w.heap.size w w' → Calls Tryz.prog 93 #[.int .i64 k, .pointer (some ⟨p1, 0, none⟩)] w' (BoolE (p k) w')
set_option maxRecDepth 100000 in
set_option maxHeartbeats 2000000 in
theorem idxInt93 (p1 : Nat) (S : Nat → Prop) (p : Int → Bool) (ks : List Int) (A : Option Addr) (c : Nat) (w : World) (hr : IntsAt S w (.slice A ks.length c) ks) (ha : AskI93 p1 p ks w) :
    Calls Tryz.prog 62 #[.slice A ks.length c, .func (Fn.func 93) #[] #[.pointer (some ⟨p1, 0, none⟩)]] w fun e w' => e = .returned (.int .i64 (idxI p ks)) ∧ Below w.heap.size w w' := by
  have hn := SliceAt.len hr
  unfold N44 at hn
  have HR := Lib.hid hr
  have HA := Lib.hid ha
  clear hr ha
  go_enter Tryz.func62, Tryz.ntmps62
  go_wp2_with fail
  go_loopw [5, 8] (fun _ v wr => ∃ j : Nat, j ≤ ks.length ∧ v = .int .i64 j ∧ Hid (∀ x ∈ ks.take j, p x = false) ∧ Hid (Below w.heap.size w wr)) (fun _ v _ => ks.length - (intOf v).toNat)
  case atStart => exact ⟨0, Nat.zero_le _, rfl, Lib.hid (fun x h => by simp at h), Lib.hid (Below.refl _ _)⟩
  case round =>
    obtain ⟨j, hj, rfl, HN, HB⟩ := hrel
    by_cases hlt : j < ks.length
    · obtain ⟨b, o, rfl, hSb, hb, k0, ki⟩ := int_cell (HR.out.keep HB.out.size (Agree.of_below HB.out) (fun _ hb hs => (⟨hs, hb⟩ : S _ ∧ _ < w.heap.size))) hlt
      have hmem : ks[j] ∈ ks := List.getElem_mem hlt
      have HF := Lib.hid (List.getElem?_eq_getElem hlt)
      generalize ks[j] = k at *
      have hjs : (j : Int) < (ks.length : Int) := by omega
      go_wp2_with fail
      refine (HA.out k wr hmem HB.out).mono ?_
      rintro e w2 ⟨rfl, hb2⟩
      have HB2 := Lib.hid (bthen HB.out hb2)
      clear HB hb2 k0
      cases hp : p k
      · have HP := Lib.hid hp
        clear hp
        go_wp2_with fail
        go_roundw
        case rel => exact ⟨j + 1, by omega, by go_num, Lib.hid (nofirst_snoc HF.out HP.out HN.out), HB2⟩
        case measure => simp [intOf]; omega
      · have HP := Lib.hid hp
        clear hp
        go_wp2_with fail
        go_ret
        exact ⟨by rw [idxI_some HF.out HP.out HN.out]; rfl, HB2.out⟩
    · obtain rfl : j = ks.length := by omega
      have HI := Lib.hid (idxI_none (p := p) (xs := ks) (by have := HN.out; rw [List.take_length] at this; exact this))
      go_wp2_with fail
      go_ret
      exact ⟨by rw [HI.out]; rfl, HB.out⟩
end Go.Proofs.YtfajbcjcigajfaaGreatDoor
namespace Go.Proofs.YtfajbcjcigajfaaGreatDoor
open Go.RowKit Go.Sort

theorem laysDel : Go.Proofs.SlLaysH.n10 Tryz.prog ⟨fun | 10 => 92 | 6 => 62 | n => n, fun | 22 => 28 | 23 => 3 | 25 => 99 | n => n, fun | n => n⟩ := {
  mixed := by kernel_rfl
  f6 := ⟨Tryz.f62.name, by decide, Tryz.func62.trans (congrArg some (by kernel_rfl))⟩
  f10 := ⟨Tryz.f92.name, by decide, Tryz.func92.trans (congrArg some (by kernel_rfl))⟩
  t0 := Tryz.underlying0
  a0 := Tryz.isAgg0
  z0 := Tryz.sizeOf0
  v0 := Tryz.zeroValue0
  t3 := Tryz.underlying3
  a3 := Tryz.isAgg3
  z3 := Tryz.sizeOf3
  v3 := Tryz.zeroValue3
  t4 := Tryz.underlying4
  a4 := Tryz.isAgg4
  z4 := Tryz.sizeOf4
  v4 := Tryz.zeroValue4
  t22 := Tryz.underlying28
  a22 := Tryz.isAgg28
  z22 := Tryz.sizeOf28
  v22 := Tryz.zeroValue28
  a23 := Tryz.isAgg3
  z23 := Tryz.sizeOf3
  t25 := Tryz.underlying99
  a25 := Tryz.isAgg99
  z25 := Tryz.sizeOf99
  v25 := Tryz.zeroValue99 }
set_option maxRecDepth 100000 in
set_option maxHeartbeats 1000000 in
theorem out_same (x : Fc) (n : Int) (bx : Nat) (w : World) (h : w.heap[bx]? = some (.cells #[.string x.name, .int .i64 x.kind, .int .i64 x.lo, .int .i64 x.hi] 82 (0, 0))) :
    Calls Tryz.prog 93 #[.int .i64 n, .pointer (some ⟨bx, 0, none⟩)] w fun e w' => e = .returned (.bool (outB x n)) ∧ ∃ q, w' = w.drewN q := by
  obtain ⟨s0, s1, s2, s3, _⟩ := four_ h
  have hl := blt_ h
  by_cases h1 : n < x.lo
  · have HV := Lib.hid (show outB x n = true by simp [outB, h1])
    go_enter Tryz.func93, Tryz.ntmps93
    go_wp2_with fail
    go_ret
    exact ⟨by rw [HV.out]; rfl, 0, rfl⟩
  · have h1' : decide (n < x.lo) = false := decide_eq_false h1
    have HV := Lib.hid (show outB x n = decide (x.hi < n) by simp [outB, h1])
    go_enter Tryz.func93, Tryz.ntmps93
    go_wp2_with fail
    go_ret
    exact ⟨by rw [HV.out]; rfl, 0, rfl⟩

/-! ### a row of ints of one's own, rewritten in place -/
theorem own_open {w : World} {B : Nat} {v : Value} {l : List Int} (h : OwnAt w B 3 1 IntR v l) (hp : 0 < l.length) :
    ∃ g cap cur, v = .slice (some ⟨g, 0, none⟩) l.length cap ∧ l.length ≤ cap ∧ cap ≤ maxLen ∧ B ≤ g ∧ w.heap[g]? = some (.cells cur 3 (0, 0)) ∧ cur.size = cap ∧ Holds (Value.int .i64) w g 0 l.toArray ∧ ∀ x ∈ l, I64 x := by
  obtain ⟨cells, h, hr⟩ := h
  rcases h.2 with ⟨rfl, h0⟩ | ⟨g, cap, cur, rfl, hb, hh, hc, hm, hs, ht⟩
  · omega
  · refine ⟨g, cap, cur, rfl, hc, hm, hb, hh, by simpa using hs, fun j hj => ?_, fun x hx => ?_⟩
    · have hj' : j < l.length := by simpa using hj
      obtain ⟨cs, h1, ⟨rfl, _⟩, h3⟩ := hr.2 j l[j] (List.getElem?_eq_getElem hj')
      have h4 := h.cells (g := g) rfl (j * 1 + 0) _ (h3 0 _ rfl)
      rw [add_plain] at h4
      refine ⟨?_, by simp [World.frozen?, hh]⟩
      rw [Nat.zero_add]
      simp only [Nat.mul_one, Nat.add_zero] at h4
      rw [h4]
      congr 2
      rw [getElem!_pos _ j hj]
      simp
    · obtain ⟨j, hj, rfl⟩ := List.mem_iff_getElem.1 hx
      obtain ⟨cs, h1, h2, h3⟩ := hr.2 j l[j] (List.getElem?_eq_getElem hj)
      exact h2.2
theorem put_heap {w : World} {g : Nat} {cur : Array Value} {t : TypeId} (h : w.heap[g]? = some (.cells cur t (0, 0))) (d : Array Int) (n : Nat) (os : Array Obj) :
    (grow (putRow (Value.int .i64) (Sort.ahead w n) g 0 d) os).heap[g]? = some (.cells (putCells (Value.int .i64) 0 d cur) t (0, 0)) ∧ Chg (fun i => i = g) w (grow (putRow (Value.int .i64) (Sort.ahead w n) g 0 d) os) := by
  have hlt := blt_ h
  have hsz : (putRow (Value.int .i64) (Sort.ahead w n) g 0 d).heap.size = w.heap.size := by simp [putRow, mapBlock, Sort.ahead]
  have hat : ∀ k, k < w.heap.size → (grow (putRow (Value.int .i64) (Sort.ahead w n) g 0 d) os).heap[k]? = (w.heap.modify g (onCells (putCells (Value.int .i64) 0 d)))[k]? := by
    intro k hk
    rw [Sort.heap_grow_old _ _ (by rw [hsz]; exact hk)]
    rfl
  refine ⟨?_, rfl, rfl, rfl, ?_, fun k hk hne => ?_⟩
  · rw [hat g hlt, Array.getElem?_modify, if_pos rfl, h]
    rfl
  · show w.heap.size ≤ ((putRow (Value.int .i64) (Sort.ahead w n) g 0 d).heap ++ os).size
    rw [Array.size_append, hsz]; omega
  · rw [hat k hk, Array.getElem?_modify, if_neg (fun e => hne e.symm)]
theorem own_put {w1 : World} {B g cap : Nat} {cur : Array Value} {d pre rest : List Int} (hB : B ≤ g) (hc : d.length ≤ cap) (hm : cap ≤ maxLen) (hs : cur.size = cap) (hd : d = pre ++ rest) (hi : ∀ x ∈ pre, I64 x)
    (hw1 : w1.heap[g]? = some (.cells (putCells (Value.int .i64) 0 d.toArray cur) 3 (0, 0))) : OwnAt w1 B 3 1 IntR (.slice (some ⟨g, 0, none⟩) pre.length cap) pre := by
  have hlen : pre.length ≤ d.length := by rw [hd]; simp
  refine ⟨pre.map (Value.int .i64), ⟨by simp, .inr ⟨g, cap, _, rfl, hB, hw1, by omega, hm, by simp [putCells, hs], ?_⟩⟩, by simp, fun j x hx => ⟨[.int .i64 x], rfl, ⟨rfl, hi x (List.mem_of_getElem? hx)⟩, fun i u hu => ?_⟩⟩
  · apply List.ext_getElem?
    intro j
    rw [List.getElem?_take, Nat.mul_one]
    by_cases hj : j < pre.length
    · have hjd : j < d.length := by omega
      rw [if_pos hj, Array.getElem?_toList, putCells, Array.getElem?_mapIdx, Array.getElem?_eq_getElem (by omega)]
      simp only [Option.map_some, Nat.zero_le, true_and, Nat.zero_add, Nat.sub_zero, List.size_toArray]
      rw [if_pos hjd, List.getElem?_map, List.getElem?_eq_getElem hj]
      simp only [Option.map_some]
      congr 2
      rw [getElem!_pos _ j (by simpa using hjd)]
      simp only [List.getElem_toArray, hd]
      rw [List.getElem_append_left hj]
    · rw [if_neg hj]
      exact (List.getElem?_eq_none (by simp; omega)).symm
  · have : i = 0 := by have := (List.getElem?_eq_some_iff.1 hu).1; simpa using this
    subst this
    simp only [List.getElem?_cons_zero] at hu
    rw [Nat.mul_one, Nat.add_zero, List.getElem?_map, hx]
    exact hu
/-- What holds of a row behind a call that rewrites it in place. -/
def RowOut (B : Nat) (w : World) (v : Value) (v' : Value) (l' : List Int) (w' : World) : Prop := OwnAt w' B 3 1 IntR v' l' ∧ v'.ownBlock = v.ownBlock ∧ Chg (fun i => some i = v.ownBlock) w w'
theorem sort_own (B : Nat) (w : World) (v : Value) (l : List Int) (h : OwnAt w B 3 1 IntR v l) (hl : l.length ≤ 100000000) :
    Calls Tryz.prog 71 #[v] w fun e w' => e = .returned (.tuple #[]) ∧ RowOut B w v v (l.mergeSort fun x y => decide (x ≤ y)) w' := by
  rcases Nat.eq_zero_or_pos l.length with h0 | hp
  · have hl0 : l = [] := List.eq_nil_of_length_eq_zero h0
    obtain ⟨A, c, rfl⟩ := h.shape
    rw [h0]
    refine (Tryz.slices_Sort_int_none A c w).mono ?_
    rintro e w' ⟨rfl, rfl⟩
    subst hl0
    exact ⟨rfl, by simpa using h, rfl, Chg.refl _ _⟩
  · obtain ⟨g, cap, cur, rfl, hc, hm, hB, hh, hs, hH, hi⟩ := own_open h hp
    refine (Tryz.slices_Sort_int g 0 cap l w hH (blt_ hh) (by omega)).mono ?_
    rintro e w' ⟨rfl, n, os, rfl⟩
    obtain ⟨p1, p2⟩ := put_heap hh (l.mergeSort fun x y => decide (x ≤ y)).toArray n os
    have hlen : (l.mergeSort fun x y => decide (x ≤ y)).length = l.length := List.length_mergeSort l
    have := own_put (d := l.mergeSort fun x y => decide (x ≤ y)) (pre := l.mergeSort fun x y => decide (x ≤ y)) (rest := []) hB (by omega) hm hs (by simp) (fun x hx => hi x (List.mem_mergeSort.1 hx)) p1
    rw [hlen] at this
    exact ⟨rfl, this, rfl, ⟨p2.os, p2.tape, p2.output, p2.size, fun k hk hn => p2.block k hk (fun e => hn (by rw [e]; rfl))⟩⟩
theorem compact_own (B : Nat) (w : World) (v : Value) (l : List Int) (h : OwnAt w B 3 1 IntR v l) (hl : l.length ≤ 100000000) :
    Calls Tryz.prog 72 #[v] w fun e w' => ∃ v', e = .returned v' ∧ RowOut B w v v' (Lib.compact l) w' := by
  rcases Nat.eq_zero_or_pos l.length with h0 | hp
  · have hl0 : l = [] := List.eq_nil_of_length_eq_zero h0
    obtain ⟨A, c, rfl⟩ := h.shape
    rw [h0]
    refine (Tryz.slices_Compact_int_empty A c w).mono ?_
    rintro e w' ⟨rfl, rfl⟩
    subst hl0
    exact ⟨_, rfl, by simpa [Lib.compact, Lib.compactUpTo] using h, rfl, Chg.refl _ _⟩
  · obtain ⟨g, cap, cur, rfl, hc, hm, hB, hh, hs, hH, hi⟩ := own_open h hp
    refine (Tryz.slices_Compact_int g 0 cap l w hH (by omega) hc).mono ?_
    rintro e w' ⟨rfl, n, rfl⟩
    have hgr : ∀ W : World, grow W #[] = W := grow_empty
    obtain ⟨p1, p2⟩ := put_heap hh (Lib.compact l ++ List.replicate (l.length - (Lib.compact l).length) 0).toArray n #[]
    rw [hgr] at p1 p2
    have hle := Lib.compact_length_le l
    have := own_put (d := Lib.compact l ++ List.replicate (l.length - (Lib.compact l).length) 0) (pre := Lib.compact l) hB (by simp; omega) hm hs rfl (fun x hx => by
      unfold Lib.compact Lib.compactUpTo at hx
      obtain ⟨j, hj, rfl⟩ := List.mem_map.1 hx
      have hj2 := List.mem_range.1 (List.mem_filter.1 hj).1
      rw [getElem!_pos _ j (by simpa using hj2)]
      exact hi _ (by simp)) p1
    exact ⟨_, rfl, this, rfl, ⟨p2.os, p2.tape, p2.output, p2.size, fun k hk hn => p2.block k hk (fun e => hn (by rw [e]; rfl))⟩⟩
theorem fn93 : ∀ args w, (callFunc 93 args).run Tryz.prog w = .ok (.enter 93 args) w := enters_of Tryz.func93 rfl rfl
theorem delete_own (B : Nat) (w : World) (v : Value) (l : List Int) (x : Fc) (bx : Nat) (h : OwnAt w B 3 1 IntR v l) (hl : l.length ≤ 100000000) (hp : 0 < l.length)
    (hx : w.heap[bx]? = some (.cells #[.string x.name, .int .i64 x.kind, .int .i64 x.lo, .int .i64 x.hi] 82 (0, 0))) :
    Calls Tryz.prog 92 #[v, .func (Fn.func 93) #[] #[.pointer (some ⟨bx, 0, none⟩)]] w fun e w' => ∃ v', e = .returned v' ∧ RowOut B w v v' (l.filter fun n => !outB x n) w' := by
  obtain ⟨g, cap, cur, rfl, hc, hm, hB, hh, hs, hH, hi⟩ := own_open h hp
  have hbg : bx ≠ g := by rintro rfl; rw [hh] at hx; injection hx with hx; injection hx with _ hx; cases hx
  have hrun := AnyE.slices_DeleteFunc laysDel (Value.int .i64) (fun _ => rfl) (outB x) 93 #[.pointer (some ⟨bx, 0, none⟩)] fn93 0 Tryz.zeroValue3 g 0 cap l.toArray w
    (fun W n hb => out_same x n bx W (below_ hb hx))
    (fun n os dk y hs' => by
      refine out_same x y bx _ ?_
      have := (put_heap hh dk n os).2.block bx (blt_ hx) hbg
      exact this.trans hx)
    hH (by simp; omega) (by simpa using hc)
  refine hrun.mono ?_
  rintro e w' ⟨rfl, n, rfl⟩
  have hgr : ∀ W : World, grow W #[] = W := grow_empty
  have hle : (l.filter fun n => !outB x n).length ≤ l.length := List.length_filter_le _ _
  obtain ⟨p1, p2⟩ := put_heap hh ((l.filter fun n => !outB x n) ++ List.replicate (l.length - (l.filter fun n => !outB x n).length) 0).toArray n #[]
  rw [hgr] at p1 p2
  have := own_put (d := (l.filter fun n => !outB x n) ++ List.replicate (l.length - (l.filter fun n => !outB x n).length) 0) (pre := l.filter fun n => !outB x n) hB (by simp; omega) hm hs rfl (fun y hy => hi y (List.mem_filter.1 hy).1) p1
  exact ⟨_, rfl, this, rfl, ⟨p2.os, p2.tape, p2.output, p2.size, fun k hk hn => p2.block k hk (fun e => hn (by rw [e]; rfl))⟩⟩
end Go.Proofs.YtfajbcjcigajfaaGreatDoor
