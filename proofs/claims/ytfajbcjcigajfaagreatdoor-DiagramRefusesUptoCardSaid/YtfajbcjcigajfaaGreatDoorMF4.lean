/- Part of the proof of a law of customhouselaw26: the texts F4. -/
import Derived.Test.YtfajbcjcigajfaaGreatDoorMF1F2F3
namespace Go.Proofs.YtfajbcjcigajfaaGreatDoor
open Go.RowKit

theorem laysClone83 : Go.Proofs.SlLaysE0.n41 Tryz.prog ⟨fun | 41 => 83 | n => n, fun | 22 => 32 | 23 => 55 | 4 => 4 | n => n, fun | n => n⟩ := {
  mixed := by kernel_rfl
  f41 := ⟨Tryz.f83.name, by decide, Tryz.func83.trans (congrArg some (by kernel_rfl))⟩
  t4 := Tryz.underlying4
  a4 := Tryz.isAgg4
  z4 := Tryz.sizeOf4
  v4 := Tryz.zeroValue4
  t22 := Tryz.underlying32
  a22 := Tryz.isAgg32
  z22 := Tryz.sizeOf32
  v22 := Tryz.zeroValue32 }
/-- A cell of a row of one's own is written. -/
theorem own_set {α : Type} {w : World} {base : Nat} {e : TypeId} {sz : Nat} {R : α → List Value → Prop} {g n c : Nat} {xs : List α} (h : OwnAt w base e sz R (.slice (some ⟨g, 0, none⟩) n c) xs) {j i : Nat} {x y : α} (hj : xs[j]? = some x) (hi : i < sz) (u : Value)
    (hR : ∀ cs, cs.length = sz → R x cs → R y (cs.set i u)) : OwnAt (w.setCell ⟨g, j * sz + i, none⟩ u) base e sz R (.slice (some ⟨g, 0, none⟩) n c) (xs.set j y) := by
  obtain ⟨cells, ⟨h1, h2⟩, h3, h4⟩ := h
  have hjl := (List.getElem?_eq_some_iff.1 hj).1
  have hk : j * sz + i < xs.length * sz := by
    have : j * sz + sz ≤ xs.length * sz := by rw [← Nat.succ_mul]; exact Nat.mul_le_mul_right _ hjl
    omega
  refine ⟨cells.set (j * sz + i) u, ⟨by simp [h1], ?_⟩, by simp [h3], fun j' x' hx' => ?_⟩
  · rcases h2 with ⟨h2, _⟩ | ⟨g', cap, cur, he, hb, hh, hc, hm, hs, ht⟩
    · cases h2
    · simp only [Value.slice.injEq, Option.some.injEq, Addr.mk.injEq] at he
      obtain ⟨⟨rfl, _⟩, rfl, rfl⟩ := he
      refine .inr ⟨g, c, cur.setIfInBounds (j * sz + i) u, by simp, hb, ?_, by simpa using hc, hm, by simpa using hs, ?_⟩
      · simp only [World.setCell, Array.getElem?_modify, hh]
        simp
      · rw [Array.toList_setIfInBounds, List.length_set, List.take_set, ht]
  · by_cases hjj : j' = j
    · subst hjj
      rw [List.getElem?_set_self hjl] at hx'
      injection hx' with hx'
      subst hx'
      obtain ⟨cs, l1, l2, l3⟩ := h4 j' x hj
      refine ⟨cs.set i u, by simpa using l1, hR cs l1 l2, fun i' v' hv' => ?_⟩
      by_cases hii : i' = i
      · subst hii
        rw [List.getElem?_set_self (by omega)] at hv'
        rw [List.getElem?_set_self (by omega)]
        exact hv'
      · rw [List.getElem?_set_ne (by omega)] at hv'
        rw [List.getElem?_set_ne (by omega)]
        exact l3 i' v' hv'
    · rw [List.getElem?_set_ne (by omega)] at hx'
      obtain ⟨cs, l1, l2, l3⟩ := h4 j' x' hx'
      refine ⟨cs, l1, l2, fun i' v' hv' => ?_⟩
      have hi' : i' < sz := by rw [← l1]; exact (List.getElem?_eq_some_iff.1 hv').1
      rw [List.getElem?_set_ne (by
        intro he
        rcases Nat.lt_or_gt_of_ne hjj with hlt | hlt
        · have : j' * sz + sz ≤ j * sz := by rw [← Nat.succ_mul]; exact Nat.mul_le_mul_right _ hlt
          omega
        · have : j * sz + sz ≤ j' * sz := by rw [← Nat.succ_mul]; exact Nat.mul_le_mul_right _ hlt
          omega)]
      exact l3 i' v' hv'
def ndCells (x : Nd) (v2 v3 : Value) : List Value := [.bool x.leaf, .int .i64 x.fact, v2, v3]
theorem nd_list {S : Nat → Prop} {w : World} {b o : Nat} {xs : List Nd} : ∀ (_h : ∀ (j : Nat) x, xs[j]? = some x → ∃ cs, cs.length = 4 ∧ NdR S w x cs ∧ ∀ (i : Nat) v, cs[i]? = some v → w.cell? ⟨b, o + j * 4 + i, none⟩ = some v),
    ∃ news : List Value, Rows_ (NdR S w) 4 news xs ∧ (∀ (j : Nat) u, news[j]? = some u → w.cell? ⟨b, o + j, none⟩ = some u) ∧ ∀ u ∈ news, u.oneCell' = true := by
  intro h
  have key : ∀ n, n ≤ xs.length → ∃ news : List Value, Rows_ (NdR S w) 4 news (xs.take n) ∧ (∀ (j : Nat) u, news[j]? = some u → w.cell? ⟨b, o + j, none⟩ = some u) ∧ ∀ u ∈ news, u.oneCell' = true := by
    intro n
    induction n with
    | zero => intro _; exact ⟨[], by simpa using Rows_.nil _ _, fun j u h => by simp at h, fun u h => by simp at h⟩
    | succ n ih =>
      intro hn
      obtain ⟨news, r1, r2, r3⟩ := ih (by omega)
      obtain ⟨cs, c1, c2, c3⟩ := h n xs[n] (List.getElem?_eq_getElem (by omega))
      refine ⟨news ++ cs, ?_, ?_, ?_⟩
      · rw [take_snoc (List.getElem?_eq_getElem (by omega))]
        exact r1.snoc c1 c2
      · intro j u hu
        have hl : news.length = n * 4 := by rw [r1.1]; simp; omega
        rcases Nat.lt_or_ge j news.length with hj | hj
        · rw [List.getElem?_append_left hj] at hu; exact r2 j u hu
        · rw [List.getElem?_append_right hj] at hu
          have := c3 _ u hu
          rw [show o + n * 4 + (j - news.length) = o + j by omega] at this
          exact this
      · intro u hu
        rcases List.mem_append.1 hu with hu | hu
        · exact r3 u hu
        · obtain ⟨v2, v3, rfl, _, hv2, hv3⟩ := c2
          obtain ⟨_, _, rfl, _⟩ := hv2
          obtain ⟨_, _, rfl, _⟩ := hv3
          simp at hu
          rcases hu with rfl | rfl | rfl | rfl <;> rfl
  have := key xs.length (Nat.le_refl _)
  rwa [List.take_length] at this
theorem info55 : (Tryz.prog.info? 55).map (fun i => (i.zero, i.size, i.bytes)) = some (some (.agg #[.bool false, .int .i64 0, .slice none 0 0, .slice none 0 0]), 4, 64) := by kernel_rfl
set_option maxRecDepth 100000 in
/-- A copy of a row of nodes; the nodes' own rows are shared. -/
theorem cloneNds_any (S : Nat → Prop) (g : List Nd) (v : Value) (w : World) (hg : NdsAt S w v g) (hl : g.length ≤ 1000000) :
    Calls Tryz.prog 83 #[v] w fun e w' => ∃ v', e = .returned v' ∧ OwnAt w' w.heap.size 55 4 (NdR S w) v' g ∧ Below w.heap.size w w' := by
  obtain ⟨A, c, rfl, hc, hr⟩ := hg
  cases A with
  | none =>
    have h0 : g = [] := by
      rcases Nat.eq_zero_or_pos g.length with h | h
      · exact List.eq_nil_of_length_eq_zero h
      · obtain ⟨b, o, h, _⟩ := hr.2 h; cases h
    subst h0
    refine (AnyE.slices_Clone_nil laysClone83 0 c w).mono ?_
    rintro e w' ⟨rfl, rfl⟩
    exact ⟨_, rfl, OwnAt.nil _ _ _ _ _, Below.refl _ _⟩
  | some a =>
    have hz := info55
    obtain ⟨i0, hi, hzz⟩ := Option.map_eq_some_iff.1 hz
    simp only [Prod.mk.injEq] at hzz
    obtain ⟨hz0, hz1, hz2⟩ := hzz
    have hz23 : ∀ w, (Go.sizeOf 55).run Tryz.prog w = .ok 4 w := Tryz.sizeOf55
    rcases Nat.eq_zero_or_pos g.length with h0 | h0
    · have hg0 := List.eq_nil_of_length_eq_zero h0
      subst hg0
      dsimp only [List.length_nil]
      have q22 : ∀ (w : World) (a : Option Addr) (n c n' c' : Nat), (binOp .eql 32 (.slice a n c) (.slice none n' c')).run Tryz.prog w = .ok (.bool a.isNone) w := fun w a n c n' c' => Lib.run_eql_slice_nil w _ _ a n c n' c' Tryz.underlying32
      go_enter Tryz.func83, Tryz.ntmps83
      go_wp2_with (at_builtin; refine wpList_append_own _ rfl _ _ 32 rfl w.heap.size 55 i0 _ 4 64 Tryz.underlying32 hi hz0 hz1 hz2 rfl (by decide) _ _ _ rfl (World.ownsRow_made w #[] 0 (Nat.le_refl _) (Nat.zero_le _) rfl) a 0 c [] rfl rfl (by intro j u hj; simp at hj) (by intro u hu; cases hu) (by unfold maxLen; omega) (by omega) (by simp) ?_)
      intro v' w1 hown hgrow hnil
      go_wp2_with fail
      go_ret
      refine ⟨v', rfl, ⟨[], by simpa using hown, Rows_.nil _ _⟩, ?_⟩
      exact ((Below.refl _ w).alloc (Nat.le_refl _) _).grown hgrow (by simp) (by intro k hk; simp [Value.ownBlock] at hk; omega)
    · obtain ⟨b, o, ha, hS, hb, hcell⟩ := hr.2 h0
      injection ha with ha
      subst ha
      obtain ⟨news, r1, r2, r3⟩ := nd_list hcell
      refine (AnyE.slices_Clone laysClone83 i0 _ 4 64 hi hz0 hz1 hz2 rfl (by decide) hz23 b o g.length c news w r1.1 (by simp only [maxLen]; omega) (by omega) r2 r3).mono ?_
      rintro e w' ⟨v', rfl, ho, _, hb⟩
      exact ⟨v', rfl, ⟨news, ho, r1⟩, hb⟩
theorem set_cell_oth {w : World} {p : Addr} {k : Nat} {v : Value} (h : k ≠ p.block) : (w.setCell p v).heap[k]? = w.heap[k]? := Below.heap_setCell _ _ _ _ h
def notN (x : Nd) : Nd := if x.kids.length = 0 then { x with leaf := !x.leaf } else x
def notG (g : List Nd) : List Nd := g.map notN
/-- The first j elements are turned. -/
def turned {α : Type} (f : α → α) (g : List α) (j : Nat) : List α := (g.take j).map f ++ g.drop j
theorem turned_len {α : Type} (f : α → α) (g : List α) (j : Nat) : (turned f g j).length = g.length := by simp [turned]; omega
theorem turned_at {α : Type} (f : α → α) {g : List α} {j : Nat} (hj : j < g.length) : (turned f g j)[j]? = some g[j] := by
  unfold turned
  rw [List.getElem?_append_right (by simp; omega)]
  simp [show min j g.length = j by omega, hj]
theorem turned_set {α : Type} (f : α → α) {g : List α} {j : Nat} (hj : j < g.length) : (turned f g j).set j (f g[j]) = turned f g (j + 1) := by
  unfold turned
  rw [List.set_append_right _ _ (by simp; omega), take_snoc (List.getElem?_eq_getElem hj), List.map_append, List.append_assoc]
  congr 1
  rw [List.length_map, List.length_take, show j - min j g.length = 0 by omega, List.drop_eq_getElem_cons hj]
  rfl
theorem turned_skip {α : Type} (f : α → α) {g : List α} {j : Nat} (hj : j < g.length) (h : f g[j] = g[j]) : turned f g j = turned f g (j + 1) := by
  rw [← turned_set f hj, h]
  apply List.ext_getElem?
  intro i
  by_cases hi : i = j
  · subst hi
    rw [List.getElem?_set_self (by rw [turned_len]; exact hj), turned_at f hj]
  · rw [List.getElem?_set_ne (by omega)]
theorem turned_end {α : Type} (f : α → α) (g : List α) : turned f g g.length = g.map f := by simp [turned]
theorem NdR.parts {S : Nat → Prop} {w : World} {x : Nd} {cs : List Value} (h : NdR S w x cs) : ∃ A2 c2 A3 c3, cs = [.bool x.leaf, .int .i64 x.fact, .slice A2 x.cuts.length c2, .slice A3 x.kids.length c3] ∧ NdIn S w x A2 c2 A3 c3 := by
  obtain ⟨v2, v3, rfl, h1, h2, h3⟩ := h
  obtain ⟨A2, c2, rfl⟩ := ints_shape h2
  obtain ⟨A3, c3, rfl⟩ := ints_shape h3
  exact ⟨A2, c2, A3, c3, rfl, h1, h2, h3⟩
/-- A row of one's own of nodes: the cells of its j-th node. -/
theorem own_nd {S : Nat → Prop} {w w0 : World} {base : Nat} {v : Value} {xs : List Nd} (h : OwnAt w base 55 4 (NdR S w0) v xs) {j : Nat} (hj : j < xs.length) :
    ∃ g c A2 c2 A3 c3, v = .slice (some ⟨g, 0, none⟩) xs.length c ∧ base ≤ g ∧ g < w.heap.size ∧ (∀ i, w.frozen? ⟨g, i, none⟩ = false) ∧ NdIn S w0 xs[j] A2 c2 A3 c3 ∧ w.cell? ⟨g, j * 4, none⟩ = some (.bool xs[j].leaf) ∧ w.cell? ⟨g, j * 4 + 1, none⟩ = some (.int .i64 xs[j].fact) ∧ w.cell? ⟨g, j * 4 + 2, none⟩ = some (.slice A2 xs[j].cuts.length c2) ∧ w.cell? ⟨g, j * 4 + 3, none⟩ = some (.slice A3 xs[j].kids.length c3) := by
  obtain ⟨g, c, hv, _, hb, hg, hf, _, hc⟩ := h.at_ (by omega)
  obtain ⟨cs, _, hR, hcc⟩ := hc j xs[j] (List.getElem?_eq_getElem hj)
  obtain ⟨A2, c2, A3, c3, rfl, hn⟩ := hR.parts
  exact ⟨g, c, A2, c2, A3, c3, hv, hb, hg, hf, hn, hcc 0 _ rfl, hcc 1 _ rfl, hcc 2 _ rfl, hcc 3 _ rfl⟩
set_option maxRecDepth 100000 in
set_option maxHeartbeats 2000000 in
theorem not_diag_any (S : Nat → Prop) (g : List Nd) (v : Value) (w : World) (hg : NdsAt S w v g) (hl : g.length ≤ 1000000) :
    Calls Tryz.prog 32 #[.agg #[v]] w fun e w' => ∃ v', e = .returned (.agg #[v']) ∧ NdsAt (fun _ => True) w' v' (notG g) ∧ Below w.heap.size w w' := by
  obtain ⟨A, c, rfl, _⟩ := id hg
  have HG := Lib.hid hg
  clear hg
  go_enter Tryz.func32, Tryz.ntmps32
  go_wp2_with fail
  have hb0 : Below w.heap.size w ((w.alloc (.cells #[.slice A g.length c] 34)).alloc (.cells #[.slice none 0 0] 34)) := ((Below.refl _ _).alloc (Nat.le_refl _) _).alloc (by simp) _
  have b1 := new_ (w.alloc (.cells #[.slice A g.length c] 34)) (.cells #[.slice none 0 0] 34)
  have hz : (w.alloc (.cells #[.slice A g.length c] 34)).heap.size = w.heap.size + 1 := by simp
  rw [hz] at b1
  clear hz
  generalize ((w.alloc (.cells #[.slice A g.length c] 34)).alloc (.cells #[.slice none 0 0] 34)) = w0 at *
  refine (cloneNds_any (fun b => S b ∧ b < w.heap.size) g _ w0 (HG.out.keep hb0.size (Agree.of_below hb0) (fun _ hb hs => ⟨hs, hb⟩)) hl).mono ?_
  rintro e w1 ⟨vo, rfl, ho, hb1⟩
  obtain ⟨Ao, co, rfl⟩ := ho.shape
  have HB0 := Lib.hid (bthen hb0 hb1)
  have HO := Lib.hid ho
  have HR := Lib.hid (below_ hb1 b1)
  have HS0 := Lib.hid (blt_ b1)
  have HNK := Lib.hid hb1
  clear hb0 hb1 b1 ho
  go_wp2_with fail
  go_loopw [4, 13] (fun _ v wr => ∃ j : Nat, j ≤ g.length ∧ v = .int .i64 j ∧ Hid (OwnAt wr w0.heap.size 55 4 (NdR (fun b => S b ∧ b < w.heap.size) w0) (.slice Ao g.length co) (turned notN g j)) ∧ Hid (Below w.heap.size w wr) ∧ Hid (wr.heap[w.heap.size + 1]? = some (.cells #[.slice none 0 0] 34 (0, 0))) ∧ Hid (wr.heap[w1.heap.size]? = some (.cells #[.slice Ao g.length co] 34 (0, 0))) ∧ Hid (∀ k, k < w0.heap.size → wr.heap[k]? = w0.heap[k]?) ∧ w0.heap.size < wr.heap.size) (fun _ v _ => g.length - (intOf v).toNat)
  case atStart =>
    have h1 := HNK.out.size
    have h2 := HB0.out.size
    refine ⟨0, Nat.zero_le _, rfl, Lib.hid ?_, Lib.hid (HB0.out.alloc h2 _), Lib.hid (old_ HR.out), Lib.hid (new_ _ _), Lib.hid (fun k hk => (Below.heap_alloc _ _ _ (by omega)).trans (HNK.out.block k hk)), by simp; omega⟩
    have : turned notN g 0 = g := by simp [turned]
    rw [this]
    exact HO.out.keep (fun k _ hk => Below.heap_alloc _ _ _ hk) (fun _ _ _ h => h)
  case round =>
    obtain ⟨j, hj, rfl, HO2, HB, HR2, HM, HK, hw0⟩ := hrel
    by_cases hlt : j < g.length
    · have hT := turned_at notN hlt
      have hlt2 : j < (turned notN g j).length := by rw [turned_len]; exact hlt
      have hTe : (turned notN g j)[j] = g[j] := by
        rw [List.getElem?_eq_getElem hlt2] at hT
        injection hT
      obtain ⟨gb, c', A2, c2, A3, c3, hv, hgb, hgl, hfz, hN, e0, e1, e2, e3⟩ := own_nd HO2.out hlt2
      rw [hTe] at hN e0 e1 e2 e3
      simp only [Value.slice.injEq] at hv
      obtain ⟨rfl, _, rfl⟩ := hv
      have HTS := Lib.hid (turned_set notN hlt)
      have HSK := Lib.hid (turned_skip notN hlt)
      have HTT := Lib.hid hT
      have HNN := Lib.hid (show notN g[j] = if g[j].kids.length = 0 then { g[j] with leaf := !g[j].leaf } else g[j] from rfl)
      clear hT hTe hlt2
      generalize g[j] = x at *
      obtain ⟨m0, m1⟩ := one_ HM.out
      have lm := blt_ HM.out
      have lr := blt_ HR2.out
      have hne1 := HNK.out.size
      have hne2 := HS0.out
      have hne3 := HB0.out.size
      by_cases hk : x.kids.length = 0
      · have hk' : ((x.kids.length : Int) == 0) = true := by simp [hk]
        have HN2 := Lib.hid (show notN x = { x with leaf := !x.leaf } by rw [HNN.out, if_pos hk])
        go_wp2_with fail
        go_roundw
        case rel =>
          have hgw1 := (own_ge HO.out gb rfl).2
          refine ⟨j + 1, by omega, by go_num, Lib.hid ?_, Lib.hid ((HB.out.setCell (by simp; omega) _).alloc (by simp [World.setCell]; omega) _), Lib.hid (old_ ((set_cell_oth (by dsimp only; omega)).trans HR2.out)), Lib.hid (old_ ((set_cell_oth (by dsimp only; omega)).trans HM.out)), Lib.hid (fun k hk => (Below.heap_alloc _ _ _ (by simp [World.setCell]; omega)).trans ((set_cell_oth (by dsimp only; omega)).trans (HK.out k hk))), by simp [World.setCell]; omega⟩
          rw [← HTS.out, HN2.out]
          refine OwnAt.keep (own_set HO2.out HTT.out (i := 0) (by decide) (.bool (!x.leaf)) ?_) (fun k _ hk => Below.heap_alloc _ _ _ hk) (fun _ _ _ h => h)
          rintro cs _ ⟨v2, v3, rfl, h1, h2, h3⟩
          exact ⟨v2, v3, rfl, h1, h2, h3⟩
        case measure => simp [intOf]; omega
      · have hk' : ((x.kids.length : Int) == 0) = false := by rw [beq_eq_false_iff_ne]; omega
        have HN2 := Lib.hid (show notN x = x by rw [HNN.out, if_neg hk])
        go_wp2_with fail
        go_roundw
        case rel =>
          refine ⟨j + 1, by omega, by go_num, ?_, Lib.hid (HB.out.alloc HB.out.size _), Lib.hid (old_ HR2.out), Lib.hid (old_ HM.out), Lib.hid (fun k hk => (Below.heap_alloc _ _ _ (by omega)).trans (HK.out k hk)), by simp; omega⟩
          rw [← HSK.out HN2.out]
          exact Lib.hid (HO2.out.keep (fun k _ hk => Below.heap_alloc _ _ _ hk) (fun _ _ _ h => h))
        case measure => simp [intOf]; omega
    · obtain rfl : j = g.length := by omega
      obtain ⟨m0, m1⟩ := one_ HM.out
      obtain ⟨r0, r1⟩ := one_ HR2.out
      have lm := blt_ HM.out
      have lr := blt_ HR2.out
      go_wp2_with fail
      refine bodyPost_ret (v := .agg #[.slice Ao g.length co]) (by simp [results, Tryz.results32, go_sem, r0]) rfl ?_
      have ho := HO2.out
      rw [turned_end] at ho
      refine ⟨_, rfl, ?_, HB.out.setCell (by simp) _⟩
      have hs0 := HS0.out
      have hkk : ∀ k, k < w0.heap.size → k ≠ w.heap.size + 1 → (wr.setCell ⟨w.heap.size + 1, 0, none⟩ (.slice Ao g.length co)).heap[k]? = w0.heap[k]? := fun k h1 h2 => (set_cell_oth h2).trans (HK.out k h1)
      refine (ho.keep (w' := wr.setCell ⟨w.heap.size + 1, 0, none⟩ (.slice Ao g.length co)) (fun k hk _ => set_cell_oth (by have := own_ge ho k hk; dsimp only; omega)) (fun _ _ _ h => h)).slice (fun _ _ _ _ => trivial) (by simp [N44]; omega) (fun x _ cs hx => ?_)
      refine NdR.keep hx (by simp [World.setCell]; omega) (fun b hb hs => hkk b hb (by omega)) (fun _ _ _ => trivial)
end Go.Proofs.YtfajbcjcigajfaaGreatDoor
