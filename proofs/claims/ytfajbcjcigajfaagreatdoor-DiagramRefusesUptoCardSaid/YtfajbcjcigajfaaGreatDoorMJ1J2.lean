/- Part of the proof of a law of customhouselaw26: the texts J1 J2. -/
import Derived.Shelf.Strings.Builder1
import Derived.Deep.RegionHeld3
import Derived.Test.YtfajbcjcigajfaaGreatDoorMF4
import Derived.Test.YtfajbcjcigajfaaGreatDoorMG1G2
namespace Go.Proofs.YtfajbcjcigajfaaGreatDoor
open Go.RowKit

theorem one_news' {w : World} {b : Nat} {v : Value} (h : w.cell? ⟨b, 0, none⟩ = some v) : ∀ j u, [v][j]? = some u → w.cell? ((⟨b, 0, none⟩ : Addr).add j) = some u := by
  intro j u hu
  have : j = 0 := by have := (List.getElem?_eq_some_iff.1 hu).1; simpa using this
  subst this
  rw [add_plain]
  simp at hu
  rw [h, hu]
theorem sizeB : (Tryz.prog.info? 75).map (·.size) = some 2 := Tryz.Builder_Extra_169.sizeBuilder
set_option maxHeartbeats 1000000 in
set_option maxRecDepth 100000 in
theorem copyCheck_used (b : Nat) (w : World) (h0 : w.cell? ⟨b, 0, none⟩ = some (.pointer (some ⟨b, 0, none⟩))) :
    Calls Tryz.prog 120 #[.pointer (some ⟨b, 0, none⟩)] w fun e w' => e = .returned (.tuple #[]) ∧ w' = w := by
  obtain ⟨j, hj, _⟩ := Option.map_eq_some_iff.1 sizeB
  go_enter Tryz.func120, Tryz.ntmps120
  go_wp2_with fail
  rw [Lib.run_neq_ptr_same w _ Tryz.underlying72 hj]
  go_wp2_with fail
  go_end0
  exact ⟨rfl, rfl⟩
set_option maxHeartbeats 1000000 in
set_option maxRecDepth 100000 in
theorem copyCheck_fresh (b : Nat) (w : World) (h0 : w.cell? ⟨b, 0, none⟩ = some (.pointer none)) (hsh : w.shape? b = some (75, 2)) (hfz : w.frozen? ⟨b, 0, none⟩ = false) :
    Calls Tryz.prog 120 #[.pointer (some ⟨b, 0, none⟩)] w fun e w' => e = .returned (.tuple #[]) ∧ w' = w.setCell ⟨b, 0, none⟩ (.pointer (some ⟨b, 0, none⟩)) := by
  obtain ⟨j, hj, hjs⟩ := Option.map_eq_some_iff.1 sizeB
  go_enter Tryz.func120, Tryz.ntmps120
  go_wp2_with fail
  rw [Lib.run_to_unsafe w ⟨b, 0, none⟩ Tryz.underlying72 Tryz.underlying170 hj (by rw [hjs]; decide) hsh (Nat.zero_lt_succ 1)]
  simp only [Result.andThen]
  rw [Oper.upon_value]
  go_wp2_with fail
  rw [run_callFunc_extern Tryz.func141 (by kernel_rfl) (by kernel_rfl) (by kernel_rfl) (e := Extern.AbiNoEscape.same) (by kernel_rfl)]
  rw [Lib.run_noEscape]
  simp only [Result.andThen]
  rw [Oper.upon_value]
  go_wp2_with fail
  rw [Lib.run_from_unsafe w ⟨b, 0, none⟩ Tryz.underlying170 Tryz.underlying72 hj hsh Tryz.Builder_Extra_169.liesBuilder]
  simp only [Result.andThen]
  rw [Oper.upon_value]
  go_wp2_with fail
  go_end0
  exact ⟨rfl, rfl⟩
theorem own_neO5 {w : World} {B : Nat} {e : TypeId} {sz n : Nat} {v : Value} {cells : List Value} (h : w.ownsRow B e sz v n cells) {b : Nat} {o : Obj} (hb : w.heap[b]? = some o) (ho : ∀ c fr, o ≠ .cells c e fr) : some b ≠ v.ownBlock := by
  intro hbe
  rcases h.2 with ⟨rfl, _⟩ | ⟨g, cap, cur, rfl, _, hh, _⟩
  · cases hbe
  · simp [Value.ownBlock] at hbe
    subst hbe
    rw [hh] at hb
    injection hb with hb
    exact ho cur (0, 0) hb.symm
theorem kept_set (b j : Nat) (w : World) {u : Value} : Lib.OthersKept 5 (some b) w (w.setCell ⟨b, j, none⟩ u) :=
  fun k o hk hne _ => (set_cell_oth (by dsimp only; rintro rfl; exact hne rfl)).trans hk
theorem kept_grown {b n sz : Nat} {B : Nat} {v : Value} {cells : List Value} {w w' : World} (hown : w.ownsRow B 5 sz v n cells) (hg : w.grownBy w' v.ownBlock) : Lib.OthersKept 5 (some b) w w' :=
  fun k _o hk _ ho => (hg.block k (blt_ hk) (own_neO5 hown hk ho)).trans hk
theorem copyCheck_any (B b : Nat) (bs : List Value) (w : World) (h : Lib.IsBuilder 75 5 B b bs w) :
    Calls Tryz.prog 120 #[.pointer (some ⟨b, 0, none⟩)] w fun e w' => e = .returned (.tuple #[]) ∧ (Lib.BuilderAt 75 5 B b (.pointer (some ⟨b, 0, none⟩)) bs w' ∧ Below B w w' ∧ Lib.OthersKept 5 (some b) w w') := by
  rcases h with h | h
  · refine (copyCheck_fresh b w h.cell0 h.shape h.frozen0).mono ?_
    rintro e w' ⟨rfl, rfl⟩
    exact ⟨rfl, h.used _, (Below.refl B w).setCell (p := ⟨b, 0, none⟩) h.1 _, kept_set _ _ _⟩
  · refine (copyCheck_used b w h.cell0).mono ?_
    rintro e w' ⟨rfl, rfl⟩
    exact ⟨rfl, h, Below.refl B _, Lib.OthersKept.refl _ _ _⟩
set_option maxHeartbeats 2000000 in
set_option maxRecDepth 100000 in
theorem writeByte_any (B b : Nat) (bs : List Value) (c : Int) (w : World) (h : Lib.IsBuilder 75 5 B b bs w) (hlen : bs.length + 1 ≤ 140737488355328) (hBw : B ≤ w.heap.size) :
    Calls Tryz.prog 89 #[.pointer (some ⟨b, 0, none⟩), .int .u8 c] w fun e w' => e = .returned .nilIface ∧ (Lib.BuilderAt 75 5 B b (.pointer (some ⟨b, 0, none⟩)) (bs ++ [.int .u8 c]) w' ∧ Below B w w' ∧ Lib.OthersKept 5 (some b) w w') := by
  obtain ⟨i0, hi, hz0, hz1, hz2⟩ := info_parts Tryz.Builder_Extra_169.infoByte
  go_enter Tryz.func89, Tryz.ntmps89
  go_wp2_with fail
  refine (copyCheck_any B b bs _ h).mono ?_
  rintro e w1 ⟨rfl, h1, hb1, hk1⟩
  obtain ⟨hB, v, hbk, hown, hne⟩ := h1
  have c0 : w1.cell? ⟨b, 0, none⟩ = some (.pointer (some ⟨b, 0, none⟩)) := (two_ hbk).1
  have c1 : w1.cell? ⟨b, 1, none⟩ = some v := (two_ hbk).2.1
  have hlt := blt_ hbk
  go_wp2_with (at_builtin; refine wpList_append_own _ rfl _ _ 73 rfl B 5 i0 (.int .u8 0) 1 1 Tryz.underlying73 hi hz0 hz1 hz2 rfl (by decide) _ _ _ rfl (hown.alloc _) ⟨w1.heap.size, 0, none⟩ 1 1 [.int .u8 c] rfl rfl ?c1 ?c2 ?c3 ?c4 ?c5 ?_)
  case c1 => exact one_news' (by simp [go_sem])
  case c2 => intro u hu; simp at hu; subst hu; rfl
  case c3 => unfold maxLen; omega
  case c4 => omega
  case c5 => have := hb1.size; simp; omega
  intro v' w2 hown' hgrow _
  have hb2 : w2.heap[b]? = some (.cells #[.pointer (some ⟨b, 0, none⟩), v] 75 (0, 0)) := (hgrow.block b (by simp; omega) (fun e => hne e.symm)).trans (old_ hbk)
  obtain ⟨d0, d1, f1⟩ := two_ hb2
  have hlt2 := blt_ hb2
  obtain ⟨g, cap, rfl⟩ : ∃ g cap, v' = .slice (some ⟨g, 0, none⟩) (bs.length + 1) cap := by
    rcases hown'.2 with ⟨_, h0⟩ | ⟨g, cap, cur, hv, _⟩
    · omega
    · exact ⟨g, cap, hv⟩
  go_wp2_with fail
  go_ret
  refine ⟨rfl, ?_, ?_, ?_⟩
  · exact Lib.BuilderAt.put (T := 75) (e := 5) hB hb2 (bs' := bs ++ [.int .u8 c]) (by simpa using hown') (by decide)
  · exact ((hb1.alloc (by have := hb1.size; omega) _).grown hgrow (by have := hb1.size; simp; omega) (fun k hk => (hown.lt k hk).1)).setCell (p := ⟨b, 1, none⟩) hB _
  · exact (hk1.trans (Lib.OthersKept.trans (fun k o hk _ _ => old_ hk) (kept_grown (hown.alloc _) hgrow))).trans (kept_set _ _ _)
set_option maxHeartbeats 2000000 in
set_option maxRecDepth 100000 in
theorem writeString_any (B b : Nat) (bs : List Value) (s : ByteArray) (w : World) (h : Lib.IsBuilder 75 5 B b bs w) (hlen : bs.length + s.size ≤ 140737488355328) (hBw : B ≤ w.heap.size) :
    Calls Tryz.prog 88 #[.pointer (some ⟨b, 0, none⟩), .string s] w fun e w' => e = .returned (.tuple #[.int .i64 s.size, .nilIface]) ∧ (Lib.BuilderAt 75 5 B b (.pointer (some ⟨b, 0, none⟩)) (bs ++ Lib.strCells s) w' ∧ Below B w w' ∧ Lib.OthersKept 5 (some b) w w') := by
  obtain ⟨i0, hi, hz0, hz1, hz2⟩ := info_parts Tryz.Builder_Extra_169.infoByte
  go_enter Tryz.func88, Tryz.ntmps88
  go_wp2_with fail
  refine (copyCheck_any B b bs _ h).mono ?_
  rintro e w1 ⟨rfl, h1, hb1, hk1⟩
  obtain ⟨hB, v, hbk, hown, hne⟩ := h1
  have c0 : w1.cell? ⟨b, 0, none⟩ = some (.pointer (some ⟨b, 0, none⟩)) := (two_ hbk).1
  have c1 : w1.cell? ⟨b, 1, none⟩ = some v := (two_ hbk).2.1
  have hlt := blt_ hbk
  go_wp2_with (at_builtin; refine Lib.wpList_append_own_string _ rfl _ _ 73 9 rfl B 5 i0 Tryz.underlying73 Tryz.underlying9 hi hz0 hz1 hz2 _ _ _ rfl hown s rfl ?c3 ?c4 ?c5 ?_)
  case c3 => unfold maxLen; omega
  case c4 => omega
  case c5 => have := hb1.size; omega
  intro v' w2 hown' hgrow _
  have hb2 : w2.heap[b]? = some (.cells #[.pointer (some ⟨b, 0, none⟩), v] 75 (0, 0)) := (hgrow.block b hlt (fun e => hne e.symm)).trans hbk
  obtain ⟨d0, d1, f1⟩ := two_ hb2
  have hlt2 := blt_ hb2
  obtain ⟨ao, n', cap, rfl⟩ : ∃ ao n' cap, v' = .slice ao n' cap := by
    rcases hown'.2 with ⟨hv, _⟩ | ⟨g, cap, cur, hv, _⟩
    · exact ⟨_, _, _, hv⟩
    · exact ⟨_, _, _, hv⟩
  go_wp2_with fail
  go_ret2
  refine ⟨rfl, ?_, ?_, ?_⟩
  · exact Lib.BuilderAt.put (T := 75) (e := 5) hB hb2 (bs' := bs ++ Lib.strCells s) (by
      have hl : (bs ++ Lib.strCells s).length = bs.length + s.size := by
        have := hown'.1
        simpa using this
      rw [hl]; exact hown') (by decide)
  · exact (hb1.grown hgrow (by have := hb1.size; omega) (fun k hk => (hown.lt k hk).1)).setCell (p := ⟨b, 1, none⟩) hB _
  · exact (hk1.trans (kept_grown hown hgrow)).trans (kept_set _ _ _)
end Go.Proofs.YtfajbcjcigajfaaGreatDoor
namespace Go.Proofs.YtfajbcjcigajfaaGreatDoor
open Go.RowKit

/-- The text by which a formula is known again. -/
def spellS (f : Fm) : List UInt8 := Lib.itoa f.op ++ f.name.data.toList ++ 44 :: (Lib.itoa f.cmp ++ 44 :: (Lib.itoa f.n ++ 40 :: ((f.kids.map fun k => spellS k).flatten ++ [41])))
termination_by f
decreasing_by (cases f; simp_wf; rename_i h; have := List.sizeOf_lt_of_mem h; simp_all; omega)
theorem spellS_eq (f : Fm) : spellS f = Lib.itoa f.op ++ f.name.data.toList ++ 44 :: (Lib.itoa f.cmp ++ 44 :: (Lib.itoa f.n ++ 40 :: ((f.kids.map spellS).flatten ++ [41]))) := by rw [spellS]
theorem itoaBelow (n : Int) (hn : I64 n) (w : World) (ht : Tab w) : Calls Tryz.prog 42 #[.int .i64 n] w fun e w' => e = .returned (.string (bytesOf (Lib.itoa n))) ∧ Below w.heap.size w w' := by
  refine (Tryz.strconv_Itoa n hn.1 hn.2 w ht).mono ?_
  rintro e w' ⟨rfl, k, os, rfl⟩
  exact ⟨rfl, Lib.below_grow _ _ (Nat.le_refl _) _ _⟩
theorem byteCells_len (l : List UInt8) : (Lib.byteCells l).length = l.length := Lib.byteCells_length l
theorem isb_lt {B b : Nat} {bs : List Value} {w : World} (h : Lib.IsBuilder 75 5 B b bs w) : b < w.heap.size := by
  rcases h with ⟨_, v, hb, _⟩ | ⟨_, v, hb, _⟩ <;> exact blt_ hb
theorem own_below {w w' : World} {B : Nat} {e : TypeId} {sz n : Nat} {v : Value} {cells : List Value} (h : w.ownsRow B e sz v n cells) (hb : Below w.heap.size w w') : w'.ownsRow B e sz v n cells := by
  refine ⟨h.1, ?_⟩
  rcases h.2 with h2 | ⟨g, cap, cur, h1, h2, hh, hr⟩
  · exact .inl h2
  · exact .inr ⟨g, cap, cur, h1, h2, below_ hb hh, hr⟩
theorem isb_keep {B b : Nat} {bs : List Value} {w w' : World} (h : Lib.IsBuilder 75 5 B b bs w) (hb : Below w.heap.size w w') : Lib.IsBuilder 75 5 B b bs w' := by
  rcases h with ⟨h1, v, h2, h3, h4⟩ | ⟨h1, v, h2, h3, h4⟩
  · exact .inl ⟨h1, v, below_ hb h2, own_below h3 hb, h4⟩
  · exact .inr ⟨h1, v, below_ hb h2, own_below h3 hb, h4⟩
theorem okept_below {w w' : World} (b : Option Nat) (hb : Below w.heap.size w w') : Lib.OthersKept 5 b w w' := fun _k _o hk _ _ => below_ hb hk
theorem cat_ok (a b : ByteArray) (h : a.size + b.size ≤ 4000000000000000000) : Op.stringOp .add a b = pure (.string (a ++ b)) := by
  unfold Op.stringOp
  have hmx : IntKind.i64.max = 9223372036854775807 := by decide
  have : ¬ (((a.size + b.size : Nat) : Int) > IntKind.i64.max) := by rw [hmx]; omega
  simp only [if_neg this]
theorem size_cat (a b : ByteArray) : (a ++ b).size = a.size + b.size := ByteArray.size_append
theorem size_of (l : List UInt8) : (bytesOf l).size = l.length := by show l.toArray.size = _; simp
set_option maxRecDepth 100000 in
set_option maxHeartbeats 4000000 in
theorem spell_any : ∀ (d : Nat) (S : Nat → Prop) (f : Fm) (A : Option Addr) (c B b : Nat) (l : List UInt8) (w : World), FmR S w d f (fv f A c) → (∀ k, S k → k < B) → Lib.IsBuilder 75 5 B b (Lib.byteCells l) w → B ≤ w.heap.size → Lib.TabBelow Tryz.prog B w "internal/strconv.uint64pow10" .u64 Lib.pow10Tab → l.length + (spellS f).length ≤ 100000000000 →
    Calls Tryz.prog 41 #[.pointer (some ⟨b, 0, none⟩), fmV f A c] w fun e w' => e = .returned (.tuple #[]) ∧ Lib.IsBuilder 75 5 B b (Lib.byteCells (l ++ spellS f)) w' ∧ Below B w w' ∧ Lib.OthersKept 5 (some b) w w' := by
  intro d
  induction d with
  | zero => intro S f A c B b l w h; exact h.elim
  | succ d ih =>
    intro S f A c B b l w h hS hb hB ht hl
    obtain ⟨hk, i1, i2, i3, hs⟩ := fm_kids h
    have n1 := itoa_le i1
    have n2 := itoa_le i2
    have n3 := itoa_le i3
    have z1 : (ByteArray.mk #[44]).size = 1 := rfl
    have z2 : (ByteArray.mk #[40]).size = 1 := rfl
    obtain ⟨c1, hc1⟩ : ∃ c1, c1 = bytesOf (Lib.itoa f.op) ++ f.name := ⟨_, rfl⟩
    obtain ⟨c2, hc2⟩ : ∃ c2, c2 = c1 ++ ByteArray.mk #[44] := ⟨_, rfl⟩
    obtain ⟨c3, hc3⟩ : ∃ c3, c3 = c2 ++ bytesOf (Lib.itoa f.cmp) := ⟨_, rfl⟩
    obtain ⟨c4, hc4⟩ : ∃ c4, c4 = c3 ++ ByteArray.mk #[44] := ⟨_, rfl⟩
    obtain ⟨c5, hc5⟩ : ∃ c5, c5 = c4 ++ bytesOf (Lib.itoa f.n) := ⟨_, rfl⟩
    obtain ⟨c6, hc6⟩ : ∃ c6, c6 = c5 ++ ByteArray.mk #[40] := ⟨_, rfl⟩
    have s1 : c1.size ≤ 140737488351300 := by rw [hc1, size_cat, size_of]; omega
    have s2 : c2.size ≤ 140737488351400 := by rw [hc2, size_cat, z1]; omega
    have s3 : c3.size ≤ 140737488351500 := by rw [hc3, size_cat, size_of]; omega
    have s4 : c4.size ≤ 140737488351600 := by rw [hc4, size_cat, z1]; omega
    have s5 : c5.size ≤ 140737488351700 := by rw [hc5, size_cat, size_of]; omega
    have e1 : Op.stringOp .add (bytesOf (Lib.itoa f.op)) f.name = pure (.string c1) := by rw [hc1]; exact cat_ok _ _ (by rw [size_of]; omega)
    have e2 : Op.stringOp .add c1 (ByteArray.mk #[44]) = pure (.string c2) := by rw [hc2]; exact cat_ok _ _ (by rw [z1]; omega)
    have e3 : Op.stringOp .add c2 (bytesOf (Lib.itoa f.cmp)) = pure (.string c3) := by rw [hc3]; exact cat_ok _ _ (by rw [size_of]; omega)
    have e4 : Op.stringOp .add c3 (ByteArray.mk #[44]) = pure (.string c4) := by rw [hc4]; exact cat_ok _ _ (by rw [z1]; omega)
    have e5 : Op.stringOp .add c4 (bytesOf (Lib.itoa f.n)) = pure (.string c5) := by rw [hc5]; exact cat_ok _ _ (by rw [size_of]; omega)
    have e6 : Op.stringOp .add c5 (ByteArray.mk #[40]) = pure (.string c6) := by rw [hc6]; exact cat_ok _ _ (by rw [z2]; omega)
    have HC6 := Lib.hid (show c6 = ((((bytesOf (Lib.itoa f.op) ++ f.name) ++ ByteArray.mk #[44]) ++ bytesOf (Lib.itoa f.cmp)) ++ ByteArray.mk #[44]) ++ bytesOf (Lib.itoa f.n) ++ ByteArray.mk #[40] by rw [hc6, hc5, hc4, hc3, hc2, hc1])
    have HLL := Lib.hid (show l.length + c6.size ≤ 140737488355328 by
      have hz : c6.size = (Lib.itoa f.op).length + f.name.size + 1 + (Lib.itoa f.cmp).length + 1 + (Lib.itoa f.n).length + 1 := by
        rw [hc6, hc5, hc4, hc3, hc2, hc1]; simp only [size_cat, size_of, z1, z2]
      have hsp : (spellS f).length ≥ f.name.size := by rw [spellS_eq]; simp only [List.length_append, data_len]; omega
      omega)
    clear hc1 hc2 hc3 hc4 hc5 hc6
    have HK := Lib.hid hk
    have HBU := Lib.hid hb
    have HT := Lib.hid ht
    clear hk hb ht h
    go_enter Tryz.func41, Tryz.ntmps41
    go_wp2_with fail
    have HX := Lib.hid (show (w.alloc (.cells #[.int .i64 f.op, .string f.name, .int .i64 f.cmp, .int .i64 f.n, .slice A f.kids.length c] 24)).drew.heap[w.heap.size]? = some (.cells #[.int .i64 f.op, .string f.name, .int .i64 f.cmp, .int .i64 f.n, .slice A f.kids.length c] 24 (0, 0)) from new_ w _)
    have HB := Lib.hid (show Below w.heap.size w (w.alloc (.cells #[.int .i64 f.op, .string f.name, .int .i64 f.cmp, .int .i64 f.n, .slice A f.kids.length c] 24)).drew from (box_below w _).drew)
    go_region_held3 (fun w' => w'.cell? ⟨w.heap.size, 0, none⟩ = some (.int .i64 f.op) ∧ w'.cell? ⟨w.heap.size, 1, none⟩ = some (.string f.name) ∧ w'.cell? ⟨w.heap.size, 2, none⟩ = some (.int .i64 f.cmp) ∧ w'.cell? ⟨w.heap.size, 3, none⟩ = some (.int .i64 f.n)) (exact ⟨(five_ HX.out).1, (five_ HX.out).2.1, (five_ HX.out).2.2.1, (five_ HX.out).2.2.2.1⟩)
      (first
        | (go_at_call 42; refine (itoaBelow _ (by first | exact i1 | exact i2 | exact i3) _ ((HT.out.on (HB.out.mono hB)).here)).mono ?_; rintro e w2 ⟨rfl, hb2⟩; have HX := Lib.hid (below_ hb2 HX.out); have HB := Lib.hid (bthen HB.out hb2); clear hb2)
        | (go_at_call 88; refine (writeString_any B b (Lib.byteCells l) c6 _ (isb_keep HBU.out HB.out) (by rw [byteCells_len]; have := HLL.out; omega) (by have := HB.out.size; omega)).mono ?_; rintro e w3 ⟨rfl, hb3, hbb3, hk3⟩; have HU := Lib.hid hb3; have HX := Lib.hid (hk3 _ _ HX.out (by have := isb_lt HBU.out; simp; omega) (by simp)); have HBB := Lib.hid ((HB.out.mono hB).trans hbb3); have HKK := Lib.hid (Lib.OthersKept.trans (okept_below (some b) HB.out) hk3); clear hb3 hbb3 hk3))
    obtain ⟨l1, hl1⟩ : ∃ l1, l1 = l ++ c6.data.toList := ⟨_, rfl⟩
    have HL1 := Lib.hid hl1
    have HU1 := Lib.hid (show Lib.IsBuilder 75 5 B b (Lib.byteCells l1) w3 from .inr (by have := HU.out; rw [hl1]; rw [show Lib.byteCells (l ++ c6.data.toList) = Lib.byteCells l ++ Lib.strCells c6 by simp [Lib.byteCells, Lib.strCells]]; exact this))
    have HSP := Lib.hid (show l ++ spellS f = l1 ++ (f.kids.map spellS).flatten ++ [41] by
      rw [hl1, HC6.out, spellS_eq]; simp [bytesOf, ByteArray.data_append])
    have HLN := Lib.hid (show l1.length + (f.kids.map spellS).flatten.length + 1 ≤ 100000000000 by
      have := congrArg List.length HSP.out
      simp only [List.length_append, List.length_cons, List.length_nil] at this
      omega)
    clear hl1 HU HL1 HLL HC6 e1 e2 e3 e4 e5 e6 s1 s2 s3 s4 s5
    obtain ⟨x0, x1, x2, x3, x4, _⟩ := five_ HX.out
    have lx := blt_ HX.out
    have hkn := HK.out.1
    unfold N44 at hkn
    go_wp2_with fail
    go_loopw [28] (fun v wr => ∃ j : Nat, j ≤ f.kids.length ∧ v = .int .i64 j ∧ Hid (Lib.IsBuilder 75 5 B b (Lib.byteCells (l1 ++ ((f.kids.take j).map spellS).flatten)) wr) ∧ Hid (Below B w wr) ∧ Hid (Lib.OthersKept 5 (some b) w wr)) (fun v _ => f.kids.length - (intOf v).toNat)
    case atStart => exact ⟨0, Nat.zero_le _, rfl, by simpa using HU1, HBB, HKK⟩
    case round =>
      clear HU1 HBB HKK
      obtain ⟨j, hj, rfl, HU, HBB, HKK⟩ := hrel
      by_cases hlt : j < f.kids.length
      · have hr := HK.out.keep' HBB.out.size (fun k _ hs => HBB.out.block k (hS k hs))
        obtain ⟨b2, o2, A', c', rfl, hSb, hbb, hR, k0, k1, k2, k3, k4⟩ := kid_cells hr hlt
        have HT2 := Lib.hid (show ((f.kids.take (j + 1)).map spellS).flatten = ((f.kids.take j).map spellS).flatten ++ spellS f.kids[j] by
          rw [List.take_succ_eq_append_getElem hlt, List.map_append, List.flatten_append]; simp)
        have HLE := Lib.hid (show ((f.kids.take (j + 1)).map spellS).flatten.length ≤ (f.kids.map spellS).flatten.length by
          conv => rhs; rw [← List.take_append_drop (j + 1) f.kids, List.map_append, List.flatten_append, List.length_append]
          omega)
        generalize f.kids[j] = k at *
        have HR := Lib.hid hR
        clear hR hr
        have hjs : (j : Int) < (f.kids.length : Int) := by omega
        go_wp2_with fail
        refine (ih _ k A' c' B b (l1 ++ ((f.kids.take j).map spellS).flatten) _ (HR.out.keep (by simp) (Agree.of_below (box_below _ _)) (fun _ hb hs => (⟨hs, hb⟩ : (S _ ∧ _ < w.heap.size) ∧ _ < wr.heap.size))) (fun k hk => hS k hk.1.1) (isb_keep HU.out (box_below _ _)) (by have := HBB.out.size; simp; omega) (HT.out.on (HBB.out.alloc (by have := HBB.out.size; omega) _)) (by have h1 := HLE.out; have h2 := HLN.out; rw [HT2.out] at h1; simp only [List.length_append] at h1 ⊢; omega)).mono ?_
        rintro e w5 ⟨rfl, hu5, hb5, hk5⟩
        have HU5 := Lib.hid (show Lib.IsBuilder 75 5 B b (Lib.byteCells (l1 ++ ((f.kids.take (j + 1)).map spellS).flatten)) w5 by rw [HT2.out, ← List.append_assoc]; exact hu5)
        have HB5 := Lib.hid ((HBB.out.alloc (by have := HBB.out.size; omega) _).trans hb5)
        have HK5 := Lib.hid (HKK.out.trans (Lib.OthersKept.trans (okept_below (some b) (box_below _ _)) hk5))
        clear hu5 hb5 hk5 HU HBB HKK
        go_wp2_with fail
        go_roundw
        case rel => exact ⟨j + 1, by omega, by go_num, HU5, HB5, HK5⟩
        case measure => simp [intOf]; omega
      · obtain rfl : j = f.kids.length := by omega
        have hU := HU.out
        rw [List.take_length] at hU
        have HU2 := Lib.hid hU
        clear hU
        go_wp2_with fail
        refine (writeByte_any B b _ 41 wr HU2.out (by rw [byteCells_len, List.length_append]; have := HLN.out; omega) (by have := HBB.out.size; omega)).mono ?_
        rintro e w5 ⟨rfl, hu5, hb5, hk5⟩
        have HU5 := Lib.hid hu5
        have HB5 := Lib.hid (HBB.out.trans hb5)
        have HK5 := Lib.hid (HKK.out.trans hk5)
        clear hu5 hb5 hk5
        go_wp2_with fail
        go_end0
        refine ⟨rfl, ?_, HB5.out, HK5.out⟩
        rw [HSP.out]
        rw [show Lib.byteCells (l1 ++ (f.kids.map spellS).flatten ++ [41]) = Lib.byteCells (l1 ++ (f.kids.map spellS).flatten) ++ [.int .u8 41] by simp [Lib.byteCells]]
        exact .inr HU5.out
end Go.Proofs.YtfajbcjcigajfaaGreatDoor
