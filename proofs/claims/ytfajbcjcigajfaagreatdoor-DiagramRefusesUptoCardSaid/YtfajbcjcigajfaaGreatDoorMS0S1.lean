/- Part of the proof of a law of customhouselaw26: the texts S0 S1. -/
import Derived.Test.YtfajbcjcigajfaaGreatDoorME2E3E4E5
import Derived.Test.YtfajbcjcigajfaaGreatDoorMK3K4
/- Appending a row of ints to a row of one's own. -/
namespace Go.Proofs.YtfajbcjcigajfaaGreatDoor
open Go.RowKit

theorem rows_ints {cells : List Value} {xs : List Int} (h : Rows_ IntR 1 cells xs) : ∀ (ys : List Int), (∀ y ∈ ys, I64 y) → Rows_ IntR 1 (cells ++ ys.map (Value.int .i64)) (xs ++ ys) := by
  intro ys
  induction ys generalizing cells xs with
  | nil => intro _; simpa using h
  | cons y ys ih =>
    intro hy
    have h1 := ih (h.snoc (cs := [.int .i64 y]) (x := y) rfl ⟨rfl, hy y (by simp)⟩) (fun z hz => hy z (by simp [hz]))
    simpa using h1
section
variable {P : Program} {ops : Array Oper} {rest : List Oper} {o : Oper} {a : Act} {Q : Exit → Act → World → Prop}
/-- append(v, ys...), ints. -/
theorem app_many {W : World} (base : Nat) (hgd : o.guard = none) (s x : Operand) (t e : TypeId) (z : Value)
    (ho : o.op = .call { callee := .builtin .append, args := #[s, x], argTypes := #[t, t] })
    (ht : P.underlying t = some (.slice e)) (hinfo : (P.info? e).map (fun i => (i.zero, i.size, i.bytes)) = some (some z, 1, 8)) (hz : z.cells.size = 1)
    (v : Value) (xs ys : List Int) (hs : a.eval s = v) (ad : Addr) (m c : Nat) (hx : a.eval x = .slice (some ad) m c) (hm : m = ys.length) (hcell : ∀ j y, ys[j]? = some y → W.cell? (ad.add j) = some (.int .i64 y)) (hy : ∀ y ∈ ys, I64 y)
    (HO : OwnAt W base e 1 IntR v xs) (hbase : base ≤ W.heap.size) (hn : (xs.length + ys.length) * 8 ≤ 140737488355328)
    (h : ∀ v1 w1, OwnAt w1 base e 1 IntR v1 (xs ++ ys) → W.grownBy w1 v.ownBlock → wpList P ops Q rest (a.put o.dst v1) w1) :
    wpList P ops Q (o :: rest) a W := by
  subst hm
  obtain ⟨i0, hi, hzz⟩ := Option.map_eq_some_iff.1 hinfo
  simp only [Prod.mk.injEq] at hzz
  obtain ⟨hz0, hz1, hz2⟩ := hzz
  obtain ⟨cells, HO, hr⟩ := HO
  refine wpList_append_own_at W hgd s x t ho base e i0 z 1 8 ht hi hz0 hz1 hz2 hz (by decide) v xs.length cells hs HO ad ys.length c (ys.map (Value.int .i64)) hx (by simp)
    (fun j u hu => by
      rw [List.getElem?_map] at hu
      obtain ⟨y, hj, rfl⟩ := Option.map_eq_some_iff.1 hu
      exact hcell j y hj) (fun u hu => by
      obtain ⟨y, _, rfl⟩ := List.mem_map.1 hu
      rfl) (by simp only [maxLen]; omega) hn hbase ?_
  intro v1 w1 hown hg _ _
  exact h v1 w1 ⟨cells ++ ys.map (Value.int .i64), by simpa using hown, rows_ints hr ys hy⟩ hg
end
/-- A row of one's own, grown, in which nothing old is turned. -/
theorem own_grown {w w1 w2 : World} {v : Value} {xs : List Int} (hb : Below w.heap.size w w1) (ho : OwnAt w1 w.heap.size 3 1 IntR v xs) (hg : w1.grownBy w2 v.ownBlock) : Below w.heap.size w w2 :=
  ⟨hg.os.trans hb.os, hg.tape.trans hb.tape, hg.output.trans hb.output, Nat.le_trans hb.size hg.size, fun k hk => by
    have h1 := hb.size
    refine (hg.block k (by omega) ?_).trans (hb.block k hk)
    intro e
    obtain ⟨cells, ho, _⟩ := ho
    rcases ho.2 with ⟨rfl, _⟩ | ⟨g, cap, cur, rfl, hB, _⟩
    · cases e
    · simp only [Value.ownBlock, Option.some.injEq] at e
      omega⟩
end Go.Proofs.YtfajbcjcigajfaaGreatDoor
/- The walk of customhouseref26.put. -/
namespace Go.Proofs.YtfajbcjcigajfaaGreatDoor
open Go.RowKit

/-- Where a number belongs in numbers in order. -/
def putK (l : List Int) (n : Int) : Nat := (l.takeWhile fun x => decide (x < n)).length
/-- Numbers in order, with one more from lo to hi. -/
def putL (l : List Int) (n lo hi : Int) : List Int :=
  if n < lo ∨ hi < n then l else if l[putK l n]? = some n then l else l.take (putK l n) ++ (n :: l.drop (putK l n))
theorem putK_at {l : List Int} {n : Int} {k : Nat} (hk : k ≤ l.length) (h : ∀ x ∈ l.take k, x < n) (hn : ∀ x, l[k]? = some x → ¬ x < n) : putK l n = k := by
  unfold putK
  induction l generalizing k with
  | nil => simp at hk; simp [hk]
  | cons y l ih =>
    cases k with
    | zero =>
      have := hn y rfl
      simp [this]
    | succ k =>
      have := h y (by simp)
      rw [List.takeWhile_cons, if_pos (by simpa using this), List.length_cons]
      rw [ih (by simpa using hk) (fun x hx => h x (by simp [hx])) (fun x hx => hn x (by simpa using hx))]
abbrev AnyB : Nat → Prop := fun _ => True
theorem ints_keep {w w' : World} {v : Value} {l : List Int} {S : Nat → Prop} (h : IntsAt S w v l) (hb : Below w.heap.size w w') : IntsAt AnyB w' v l := h.keep hb.size (Agree.of_below hb) (fun _ _ _ => trivial)
/-- The cells of a row of ints. -/
theorem ints_cells {S : Nat → Prop} {w : World} {b o c : Nat} {l : List Int} (h : IntsAt S w (.slice (some ⟨b, o, none⟩) l.length c) l) : ∀ (j : Nat) (y : Int), l[j]? = some y → w.cell? ⟨b, o + j, none⟩ = some (.int .i64 y) ∧ I64 y := by
  intro j y hj
  obtain ⟨hlt, rfl⟩ := List.getElem?_eq_some_iff.1 hj
  obtain ⟨b', o', e, _, _, h1, h2⟩ := int_cell h hlt
  injection e with e
  injection e with e1 e2
  subst e1 e2
  exact ⟨h1, h2⟩
theorem own_empty (W : World) {base : Nat} (h : base ≤ W.heap.size) : OwnAt (W.alloc (.cells #[] 3)) base 3 1 IntR (.slice (some ⟨W.heap.size, 0, none⟩) 0 0) [] :=
  ⟨[], World.ownsRow_lit (base := base) (e := 3) (size := 1) W #[] 0 h (by simp [maxLen]) rfl, Rows_.nil _ _⟩
theorem add_lit2 (b o j : Nat) : (⟨b, o, none⟩ : Addr).add j = ⟨b, o + j, none⟩ := by unfold Addr.add; split <;> simp_all
set_option maxRecDepth 100000 in
set_option maxHeartbeats 4000000 in
theorem put_any (l : List Int) (v : Value) (n lo hi : Int) (w : World) (h : IntsAt AnyB w v l) (hp : 0 < l.length) (hl : l.length ≤ 100000000) (hn : I64 n) :
    Calls Tryz.prog 116 #[v, .int .i64 n, .int .i64 lo, .int .i64 hi] w fun e w' => ∃ v', e = .returned v' ∧ IntsAt AnyB w' v' (putL l n lo hi) ∧ Below w.heap.size w w' := by
  obtain ⟨A, c, rfl, hlc, _⟩ := id h
  have H := Lib.hid h
  have HN := Lib.hid hn
  clear hn
  by_cases h1 : n < lo
  · have HV := Lib.hid (show putL l n lo hi = l by simp [putL, h1])
    go_enter Tryz.func116, Tryz.ntmps116
    go_wp2_with fail
    go_ret
    exact ⟨_, rfl, by rw [HV.out]; exact H.out, Below.refl _ _⟩
  · have h1' : decide (n < lo) = false := decide_eq_false h1
    by_cases h2 : hi < n
    · have HV := Lib.hid (show putL l n lo hi = l by simp [putL, h2])
      clear h1
      go_enter Tryz.func116, Tryz.ntmps116
      go_wp2_with fail
      go_ret
      exact ⟨_, rfl, by rw [HV.out]; exact H.out, Below.refl _ _⟩
    · have h2' : decide (hi < n) = false := decide_eq_false h2
      have HV := Lib.hid (show putL l n lo hi = if l[putK l n]? = some n then l else l.take (putK l n) ++ (n :: l.drop (putK l n)) by simp [putL, h1, h2])
      clear h1 h2 h
      go_enter Tryz.func116, Tryz.ntmps116
      go_wp2_with fail
      go_loopw [9] (fun v9 wr => ∃ k : Nat, k ≤ l.length ∧ v9 = .int .i64 k ∧ Hid (∀ x ∈ l.take k, x < n) ∧ Hid (Below w.heap.size w wr)) (fun v9 _ => l.length - (intOf v9).toNat)
      case atStart => exact ⟨0, Nat.zero_le _, rfl, Lib.hid (by simp), Lib.hid (Below.refl _ _)⟩
      case round =>
        obtain ⟨k, hk, rfl, HK, HB⟩ := hrel
        by_cases hlt : k < l.length
        · obtain ⟨b, o, rfl, _, hb, e0, i0⟩ := int_cell (ints_keep H.out HB.out) hlt
          have HX := Lib.hid (show l[k]? = some l[k] from List.getElem?_eq_getElem hlt)
          generalize l[k] = x at *
          have hks : (k : Int) < (l.length : Int) := by omega
          have hkd : decide ((k : Int) < (l.length : Int)) = true := decide_eq_true hks
          by_cases hx : x < n
          · have hxd : decide (x < n) = true := decide_eq_true hx
            have HK2 := Lib.hid (show ∀ y ∈ l.take (k + 1), y < n by
              rw [take_snoc HX.out]
              intro y hy
              rcases List.mem_append.1 hy with hy | hy
              · exact HK.out y hy
              · rw [List.mem_singleton.1 hy]; exact hx)
            go_wp2_with fail
            go_roundw
            case rel => exact ⟨k + 1, by omega, by go_num, HK2, HB⟩
            case measure => simp [intOf]; omega
          · have hxd : decide (x < n) = false := decide_eq_false hx
            have HP := Lib.hid (putK_at hk HK.out (fun y hy => by rw [HX.out] at hy; injection hy with hy; rw [← hy]; exact hx))
            by_cases hxe : x = n
            · have hxe' : (x == n) = true := by simp [hxe]
              have HV2 := Lib.hid (show putL l n lo hi = l by rw [HV.out, HP.out, HX.out, hxe, if_pos rfl])
              clear hx hxe
              go_wp2_with fail
              go_ret
              exact ⟨_, rfl, by rw [HV2.out]; exact ints_keep H.out HB.out, HB.out⟩
            · have hxe' : (x == n) = false := by simp [hxe]
              have HV2 := Lib.hid (show putL l n lo hi = l.take k ++ (n :: l.drop k) by rw [HV.out, HP.out, HX.out, if_neg (by simpa using hxe)])
              clear hx hxe
              have HC := Lib.hid (ints_cells H.out)
              have hbw : b < w.heap.size := by
                obtain ⟨b', o', e, _, h1, _⟩ := int_cell H.out hp
                injection e with e
                injection e with e1 e2
                all_goals omega
              go_wp2_with (at_builtin; refine app_many w.heap.size rfl (.tmp 47) (.tmp 50) 28 3 _ rfl Tryz.underlying28 info3 rfl (.slice (some ⟨wr.heap.size, 0, none⟩) 0 0) [] (l.take k) rfl ⟨b, o, none⟩ k c rfl ?c0 ?c1 ?c2 ?c3 ?c4 ?c5 ?_)
              case c0 => rw [List.length_take]; omega
              case c1 =>
                intro j y hj
                rw [List.getElem?_take] at hj
                split at hj
                · rw [add_lit2]
                  exact ((HB.out.alloc HB.out.size _).cell (p := ⟨b, o + j, none⟩) hbw).trans (HC.out j y hj).1
                · cases hj
              case c2 => intro y hy; obtain ⟨j, hj⟩ := List.mem_iff_getElem?.1 (List.mem_of_mem_take hy); exact (HC.out j y hj).2
              case c3 => exact own_empty _ HB.out.size
              case c4 => have := HB.out.size; simp; omega
              case c5 => simp only [List.length_nil, List.length_take]; omega
              intro v1 w1 ho1 hg1
              have HB1 := Lib.hid (Below.grown (HB.out.alloc HB.out.size (.cells #[] 3)) hg1 (by have := HB.out.size; simp; omega) (fun q hq => by have := HB.out.size; simp [Value.ownBlock] at hq; omega))
              have hl1len : (l.take k).length ≤ 100000000 := by rw [List.length_take]; omega
              obtain ⟨l1, hl1⟩ : ∃ l1, l1 = l.take k := ⟨_, rfl⟩
              rw [← hl1] at ho1 hl1len
              have HL1 := Lib.hid hl1
              have HO1 := Lib.hid ho1
              obtain ⟨A1, c1, rfl⟩ := ho1.shape
              clear ho1 hg1 hl1
              go_wp2_with (at_builtin; refine app_one (R := IntR) w.heap.size rfl (.tmp 52) (.tmp 54) 28 3 _ 1 8 rfl Tryz.underlying28 info3 rfl (by decide) (by decide) (.slice A1 l1.length c1) l1 n [.int .i64 n] rfl w1.heap.size rfl rfl rfl (by simp [Value.oneCell']) ?c1 ?c2 ?c3 ?_)
              case c1 => exact HO1.out
              case c2 => exact HB1.out.size
              case c3 => omega
              intro v2 w2 ho2 hg2 _
              have HO2 := Lib.hid (ho2 IntR (fun _ _ _ h => h) ⟨rfl, HN.out⟩)
              have HB2 := Lib.hid (Below.grown HB1.out hg2 HB1.out.size (fun q hq => own_base HO1.out hq))
              obtain ⟨l2, hl2⟩ : ∃ l2, l2 = l1 ++ [n] := ⟨_, rfl⟩
              have hl2len : l2.length = l1.length + 1 := by rw [hl2]; simp
              rw [← hl2] at HO2
              have HL2 := Lib.hid hl2
              have HLL2 := Lib.hid hl2len
              obtain ⟨A2, c2, rfl⟩ := HO2.out.shape
              clear ho2 hg2 hl2 hl2len
              go_wp2_with (at_builtin; refine app_many w.heap.size rfl (.tmp 56) (.tmp 59) 28 3 _ rfl Tryz.underlying28 info3 rfl (.slice A2 l2.length c2) l2 (l.drop k) rfl ⟨b, o + k, none⟩ (l.length - k) (c - k) rfl ?c0 ?c1 ?c2 ?c3 ?c4 ?c5 ?_)
              case c0 => rw [List.length_drop]
              case c1 =>
                intro j y hj
                rw [List.getElem?_drop] at hj
                rw [add_lit2, Nat.add_assoc]
                exact (HB2.out.cell (p := ⟨b, o + (k + j), none⟩) hbw).trans (HC.out _ y hj).1
              case c2 => intro y hy; obtain ⟨j, hj⟩ := List.mem_iff_getElem?.1 (List.mem_of_mem_drop hy); exact (HC.out j y hj).2
              case c3 => exact HO2.out
              case c4 => exact HB2.out.size
              case c5 => have := HLL2.out; rw [List.length_drop]; omega
              intro v3 w3 ho3 hg3
              have HO3 := Lib.hid ho3
              have HB3 := Lib.hid (Below.grown HB2.out hg3 HB2.out.size (fun q hq => own_base HO2.out hq))
              have HL3 := Lib.hid (show l2 ++ l.drop k = putL l n lo hi by rw [HV2.out, HL2.out, HL1.out]; simp)
              have HN3 := Lib.hid (show (l2 ++ l.drop k).length ≤ N44 by have := HLL2.out; rw [List.length_append, List.length_drop, N44]; omega)
              clear ho3 hg3 HO2 HO1
              obtain ⟨A3, c3, rfl⟩ := HO3.out.shape
              go_wp2_with fail
              go_ret
              exact ⟨_, rfl, by rw [← HL3.out]; exact HO3.out.slice (fun _ _ _ _ => trivial) HN3.out (fun _ _ _ h => h), HB3.out⟩
        · obtain rfl : k = l.length := by omega
          have hkd : decide ((l.length : Int) < (l.length : Int)) = false := decide_eq_false (by omega)
          have HP := Lib.hid (putK_at (Nat.le_refl _) HK.out (fun y hy => by simp at hy))
          have HV2 := Lib.hid (show putL l n lo hi = l.take l.length ++ (n :: l.drop l.length) by rw [HV.out, HP.out]; simp)
          obtain ⟨b, o, rfl, _, hbw, _, _⟩ := int_cell H.out hp
          have HC := Lib.hid (ints_cells H.out)
          go_wp2_with (at_builtin; refine app_many w.heap.size rfl (.tmp 47) (.tmp 50) 28 3 _ rfl Tryz.underlying28 info3 rfl (.slice (some ⟨wr.heap.size, 0, none⟩) 0 0) [] (l.take l.length) rfl ⟨b, o, none⟩ l.length c rfl ?c0 ?c1 ?c2 ?c3 ?c4 ?c5 ?_)
          case c0 => rw [List.length_take]; omega
          case c1 =>
            intro j y hj
            rw [List.getElem?_take] at hj
            split at hj
            · rw [add_lit2]
              exact ((HB.out.alloc HB.out.size _).cell (p := ⟨b, o + j, none⟩) hbw).trans (HC.out j y hj).1
            · cases hj
          case c2 => intro y hy; obtain ⟨j, hj⟩ := List.mem_iff_getElem?.1 (List.mem_of_mem_take hy); exact (HC.out j y hj).2
          case c3 => exact own_empty _ HB.out.size
          case c4 => have := HB.out.size; simp; omega
          case c5 => simp only [List.length_nil, List.length_take]; omega
          intro v1 w1 ho1 hg1
          have HB1 := Lib.hid (Below.grown (HB.out.alloc HB.out.size (.cells #[] 3)) hg1 (by have := HB.out.size; simp; omega) (fun q hq => by have := HB.out.size; simp [Value.ownBlock] at hq; omega))
          have hl1len : (l.take l.length).length ≤ 100000000 := by rw [List.length_take]; omega
          try rw [List.take_length] at ho1
          rw [List.take_length] at hl1len
          obtain ⟨l1, hl1⟩ : ∃ l1, l1 = l := ⟨_, rfl⟩
          have ho1 : OwnAt w1 w.heap.size 3 1 IntR v1 l1 := by rw [hl1]; exact ho1
          rw [← hl1] at hl1len
          have HL1 := Lib.hid hl1
          have HO1 := Lib.hid ho1
          obtain ⟨A1, c1, rfl⟩ := ho1.shape
          clear ho1 hg1 hl1
          go_wp2_with (at_builtin; refine app_one (R := IntR) w.heap.size rfl (.tmp 52) (.tmp 54) 28 3 _ 1 8 rfl Tryz.underlying28 info3 rfl (by decide) (by decide) (.slice A1 l1.length c1) l1 n [.int .i64 n] rfl w1.heap.size rfl rfl rfl (by simp [Value.oneCell']) ?c1 ?c2 ?c3 ?_)
          case c1 => exact HO1.out
          case c2 => exact HB1.out.size
          case c3 => omega
          intro v2 w2 ho2 hg2 _
          have HO2 := Lib.hid (ho2 IntR (fun _ _ _ h => h) ⟨rfl, HN.out⟩)
          have HB2 := Lib.hid (Below.grown HB1.out hg2 HB1.out.size (fun q hq => own_base HO1.out hq))
          obtain ⟨l2, hl2⟩ : ∃ l2, l2 = l1 ++ [n] := ⟨_, rfl⟩
          have hl2len : l2.length = l1.length + 1 := by rw [hl2]; simp
          rw [← hl2] at HO2
          have HL2 := Lib.hid hl2
          have HLL2 := Lib.hid hl2len
          obtain ⟨A2, c2, rfl⟩ := HO2.out.shape
          clear ho2 hg2 hl2 hl2len
          by_cases hcl : c = l.length
          · obtain rfl := hcl
            go_wp2_with (at_builtin; refine app_many w.heap.size rfl (.tmp 56) (.tmp 59) 28 3 _ rfl Tryz.underlying28 info3 rfl (.slice A2 l2.length c2) l2 (l.drop l.length) rfl ⟨b, o, none⟩ 0 0 rfl ?c0 ?c1 ?c2 ?c3 ?c4 ?c5 ?_)
            case c0 => simp
            case c1 => intro j y hj; simp at hj
            case c2 => intro y hy; obtain ⟨j, hj⟩ := List.mem_iff_getElem?.1 (List.mem_of_mem_drop hy); exact (HC.out j y hj).2
            case c3 => exact HO2.out
            case c4 => exact HB2.out.size
            case c5 => have := HLL2.out; rw [List.length_drop]; omega
            intro v3 w3 ho3 hg3
            have ho3 : OwnAt w3 w.heap.size 3 1 IntR v3 l2 := by simpa using ho3
            have HO3 := Lib.hid ho3
            have HB3 := Lib.hid (Below.grown HB2.out hg3 HB2.out.size (fun q hq => own_base HO2.out hq))
            have HL3 := Lib.hid (show l2 = putL l n lo hi by rw [HV2.out, HL2.out, HL1.out]; simp)
            have HN3 := Lib.hid (show l2.length ≤ N44 by have := HLL2.out; rw [N44]; omega)
            clear ho3 hg3 HO2 HO1
            obtain ⟨A3, c3, rfl⟩ := HO3.out.shape
            go_wp2_with fail
            go_ret
            exact ⟨_, rfl, by rw [← HL3.out]; exact HO3.out.slice (fun _ _ _ _ => trivial) HN3.out (fun _ _ _ h => h), HB3.out⟩
          · go_wp2_with (at_builtin; refine app_many w.heap.size rfl (.tmp 56) (.tmp 59) 28 3 _ rfl Tryz.underlying28 info3 rfl (.slice A2 l2.length c2) l2 (l.drop l.length) rfl ⟨b, o + l.length, none⟩ _ _ rfl ?c0 ?c1 ?c2 ?c3 ?c4 ?c5 ?_)
            case c0 => simp
            case c1 => intro j y hj; simp at hj
            case c2 => intro y hy; obtain ⟨j, hj⟩ := List.mem_iff_getElem?.1 (List.mem_of_mem_drop hy); exact (HC.out j y hj).2
            case c3 => exact HO2.out
            case c4 => exact HB2.out.size
            case c5 => have := HLL2.out; rw [List.length_drop]; omega
            intro v3 w3 ho3 hg3
            have ho3 : OwnAt w3 w.heap.size 3 1 IntR v3 l2 := by simpa using ho3
            have HO3 := Lib.hid ho3
            have HB3 := Lib.hid (Below.grown HB2.out hg3 HB2.out.size (fun q hq => own_base HO2.out hq))
            have HL3 := Lib.hid (show l2 = putL l n lo hi by rw [HV2.out, HL2.out, HL1.out]; simp)
            have HN3 := Lib.hid (show l2.length ≤ N44 by have := HLL2.out; rw [N44]; omega)
            clear ho3 hg3 HO2 HO1
            obtain ⟨A3, c3, rfl⟩ := HO3.out.shape
            go_wp2_with fail
            go_ret
            exact ⟨_, rfl, by rw [← HL3.out]; exact HO3.out.slice (fun _ _ _ _ => trivial) HN3.out (fun _ _ _ h => h), HB3.out⟩
end Go.Proofs.YtfajbcjcigajfaaGreatDoor
