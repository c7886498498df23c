/- Part of the proof of a law of customhouselaw26: the texts G1 G2. -/
import Derived.Laws.IdiomStrings
import Derived.Lib.ItoaLen
import Derived.Test.YtfajbcjcigajfaaGreatDoorMF4
namespace Go.Proofs.YtfajbcjcigajfaaGreatDoor
open Go.RowKit

/-- The numerals' table lies in the world. -/
def Tab (w : World) : Prop := Lib.TabIs Tryz.prog w "internal/strconv.uint64pow10" .u64 Lib.pow10Tab
theorem Tab.keep {w w' : World} (h : Tab w) (hb : Below w.heap.size w w') : Tab w' := Lib.tabBelow_of_tabIs h w' hb
def bytesOf (l : List UInt8) : ByteArray := ⟨l.toArray⟩
/-- v is a row of one's own of the bytes l. -/
def BytesOwn (w : World) (B : Nat) (v : Value) (l : List UInt8) : Prop := w.ownsRow B 5 1 v l.length (Lib.byteCells l)
theorem info5 : (Tryz.prog.info? 5).map (fun i => (i.zero, i.size, i.bytes)) = some (some (.int .u8 0), 1, 1) := by kernel_rfl
def ByteR (b : UInt8) (cs : List Value) : Prop := cs = [.int .u8 b.toNat]
theorem BytesOwn.own {w : World} {B : Nat} {v : Value} {l : List UInt8} (h : BytesOwn w B v l) : OwnAt w B 5 1 ByteR v l := by
  refine ⟨_, h, by simp [Lib.byteCells], fun j x hx => ⟨[.int .u8 x.toNat], rfl, rfl, fun i u hu => ?_⟩⟩
  have : i = 0 := by have := (List.getElem?_eq_some_iff.1 hu).1; simpa using this
  subst this
  simp at hu
  subst hu
  simp [Lib.byteCells, hx]
theorem OwnAt.bytes {w : World} {B : Nat} {v : Value} {l : List UInt8} (h : OwnAt w B 5 1 ByteR v l) : BytesOwn w B v l := by
  obtain ⟨cells, h1, h2, h3⟩ := h
  have : cells = Lib.byteCells l := by
    apply List.ext_getElem?
    intro j
    simp only [Lib.byteCells, List.getElem?_map]
    cases hx : l[j]? with
    | none =>
      rw [List.getElem?_eq_none_iff] at hx
      simp only [Option.map_none]
      rw [List.getElem?_eq_none_iff, h2]; omega
    | some x =>
      obtain ⟨cs, _, rfl, h4⟩ := h3 j x hx
      simpa using h4 0 _ rfl
  rw [this] at h1
  exact h1
/-- The text of a node. -/
def itemsS (l : List Int) : List UInt8 := l.flatMap fun k => Lib.itoa k ++ [44]
def writeS (x : Nd) : List UInt8 := (if x.leaf then 49 else 48) :: (Lib.itoa x.fact ++ (58 :: itemsS x.cuts) ++ (58 :: itemsS x.kids))
theorem itoa_le {n : Int} (h : I64 n) : (Lib.itoa n).length ≤ 21 := Lib.itoa_length_le n h.1 h.2
theorem items_le {l : List Int} (h : ∀ x ∈ l, I64 x) : (itemsS l).length ≤ 22 * l.length := by
  induction l with
  | nil => simp [itemsS]
  | cons a l ih =>
    have h1 := itoa_le (h a (by simp))
    have h2 := ih (fun x hx => h x (by simp [hx]))
    simp only [itemsS, List.flatMap_cons, List.length_append, List.length_cons, List.length_nil] at h2 ⊢
    omega
theorem items_snoc {l : List Int} {j : Nat} (hj : j < l.length) : itemsS (l.take (j + 1)) = itemsS (l.take j) ++ Lib.itoa l[j] ++ [44] := by
  unfold itemsS
  rw [take_snoc (List.getElem?_eq_getElem hj), List.flatMap_append, List.flatMap_cons, List.flatMap_nil, List.append_nil, List.append_assoc]
theorem ints_i64 {S : Nat → Prop} {w : World} {v : Value} {xs : List Int} (h : IntsAt S w v xs) : ∀ x ∈ xs, I64 x := by
  intro x hx
  obtain ⟨A, c, rfl, _, hr⟩ := h
  obtain ⟨j, hj, rfl⟩ := List.getElem_of_mem hx
  obtain ⟨_, _, _, _, _, hc⟩ := hr.2 (by omega)
  obtain ⟨cs, _, hR, _⟩ := hc j xs[j] (List.getElem?_eq_getElem hj)
  exact hR.2
/-- AppendInt, to bytes of one's own. -/
theorem appInt (B : Nat) (v : Value) (l : List UInt8) (i : Int) (w : World) (hi : I64 i) (ho : BytesOwn w B v l) (hB : B ≤ w.heap.size) (hl : l.length ≤ 100000000000000) (ht : Lib.TabBelow Tryz.prog B w "internal/strconv.uint64pow10" .u64 Lib.pow10Tab) :
    Calls Tryz.prog 119 #[v, .int .i64 i, .int .i64 10] w fun e w' => ∃ v', e = .returned v' ∧ BytesOwn w' B v' (l ++ Lib.itoa i) ∧ Below B w w' ∧ Lib.OthersKept 5 none w w' := by
  refine (Tryz.strconv_AppendInt_10 B l.length i hi.1 hi.2 v _ w ho hB (by omega) ht).mono ?_
  rintro e w' ⟨v', rfl, ho', hb, hk⟩
  exact ⟨v', rfl, by unfold BytesOwn; rw [List.length_append, show Lib.byteCells (l ++ Lib.itoa i) = Lib.byteCells l ++ Lib.byteCells (Lib.itoa i) by simp [Lib.byteCells]]; exact ho', hb, hk⟩
def headS (x : Nd) : List UInt8 := (if x.leaf then 49 else 48) :: Lib.itoa x.fact
/-- The text of a node, of the first j of its two lists. -/
def preS (x : Nd) : Nat → List UInt8
  | 0 => headS x
  | 1 => headS x ++ (58 :: itemsS x.cuts)
  | _ => headS x ++ (58 :: itemsS x.cuts) ++ (58 :: itemsS x.kids)
theorem preS_end (x : Nd) : preS x 2 = writeS x := by simp [preS, writeS, headS]
theorem BytesOwn.shape {w : World} {B : Nat} {v : Value} {l : List UInt8} (h : BytesOwn w B v l) : ∃ A c, v = .slice A l.length c := h.own.shape
/-- A block of another kind is not the row's. -/
theorem own_ne {w : World} {B : Nat} {v : Value} {l : List UInt8} (h : BytesOwn w B v l) {b t : Nat} {c : Array Value} {fr : Nat × Nat} (hb : w.heap[b]? = some (.cells c t fr)) (ht : t ≠ 5) : some b ≠ v.ownBlock := by
  intro e
  rcases h.2 with ⟨rfl, _⟩ | ⟨g, cap, cur, rfl, _, hh, _⟩
  · cases e
  · simp [Value.ownBlock] at e
    subst e
    rw [hh] at hb
    injection hb with hb
    injection hb with _ hb
    exact ht hb.symm
/-- What goes on while the text of a node is written: so far l, from w0's blocks on; bX holds the two lists. -/
structure WrAt (w0 : World) (bX : Nat) (X : Array Value) (l : List UInt8) (v : Value) (wr : World) : Prop where
  own : BytesOwn wr w0.heap.size v l
  below : Below w0.heap.size w0 wr
  x : wr.heap[bX]? = some (.cells X 28 (0, 0))
theorem WrAt.grown {w0 wr w4 : World} {bX : Nat} {X : Array Value} {l : List UInt8} {v v1 : Value} {y : UInt8} (h : WrAt w0 bX X l v wr) (hown : BytesOwn w4 w0.heap.size v1 (l ++ [y])) (hg : wr.grownBy w4 v.ownBlock) : WrAt w0 bX X (l ++ [y]) v1 w4 :=
  ⟨hown, Below.grown h.below hg h.below.size (fun k hk => own_base h.own.own hk), (hg.block bX (blt_ h.x) (own_ne h.own h.x (by decide))).trans h.x⟩
theorem WrAt.num {w0 wr w4 : World} {bX : Nat} {X : Array Value} {l l2 : List UInt8} {v v1 : Value} (h : WrAt w0 bX X l v wr) (hown : BytesOwn w4 w0.heap.size v1 l2) (hb : Below w0.heap.size wr w4) (hk : Lib.OthersKept 5 none wr w4) : WrAt w0 bX X l2 v1 w4 :=
  ⟨hown, h.below.trans hb, hk bX _ h.x (by simp) (by simp)⟩
set_option maxRecDepth 100000 in
set_option maxHeartbeats 4000000 in
theorem write_any (S : Nat → Prop) (x : Nd) (A2 : Option Addr) (c2 : Nat) (A3 : Option Addr) (c3 : Nat) (w : World) (hN : NdIn S w x A2 c2 A3 c3) (hc : x.cuts.length ≤ 1000000) (hk : x.kids.length ≤ 1000000) (ht : Tab w) :
    Calls Tryz.prog 87 #[ndV x A2 c2 A3 c3] w fun e w' => e = .returned (.string (bytesOf (writeS x))) ∧ Below w.heap.size w w' := by
  have HT := Lib.hid (ht.keep (box_below w (.cells #[.bool x.leaf, .int .i64 x.fact, .slice A2 x.cuts.length c2, .slice A3 x.kids.length c3] 55)))
  have HN := Lib.hid (hN.keep (box_below w (.cells #[.bool x.leaf, .int .i64 x.fact, .slice A2 x.cuts.length c2, .slice A3 x.kids.length c3] 55)))
  have HI1 := Lib.hid (ints_i64 hN.cuts)
  have HI2 := Lib.hid (ints_i64 hN.kids)
  clear hN ht
  cases hl : x.leaf
  · rw [hl] at HT HN
    go_enter Tryz.func87, Tryz.ntmps87
    go_upto_region 4 with fail
    have HLF := Lib.hid hl
    clear hl
    generalize hw0 : w.alloc (.cells #[.bool false, .int .i64 x.fact, .slice A2 x.cuts.length c2, .slice A3 x.kids.length c3] 55) = w0 at HT HN ⊢
    have HW0 := Lib.hid (show BytesOwn (w0.alloc (.cells #[.int .u8 48] 5)) w0.heap.size (.slice (some ⟨w0.heap.size, 0, none⟩) 1 1) [48] from ⟨rfl, .inr ⟨w0.heap.size, 1, _, rfl, Nat.le_refl _, new_ _ _, Nat.le_refl _, by decide, rfl, rfl⟩⟩)
    have hbx := new_ w (.cells #[.bool false, .int .i64 x.fact, .slice A2 x.cuts.length c2, .slice A3 x.kids.length c3] 55)
    have hz : w0.heap.size = w.heap.size + 1 := by rw [← hw0]; simp
    rw [hw0] at hbx
    rw [← hz]
    have hzz := Lib.hid hz
    clear hz
    have HB0 := Lib.hid (show Below w.heap.size w w0 from hw0 ▸ box_below w _)
    clear hw0
    have hbx1 := old_ hbx (o := .cells #[.int .u8 48] 5)
    obtain ⟨s0, s1, s2, s3, _⟩ := four_ hbx1
    have hlw := blt_ hbx1
    go_wp2_with fail
    refine (appInt w0.heap.size _ [48] x.fact _ HN.out.fact HW0.out (by simp) (by simp) ((Lib.tabBelow_of_tabIs HT.out).on (box_below _ _))).mono ?_
    rintro e w2 ⟨v3, rfl, ho2, hb2, hk2⟩
    obtain ⟨l0, hl0⟩ : ∃ l0, l0 = [48] ++ Lib.itoa x.fact := ⟨_, rfl⟩
    rw [← hl0] at ho2
    have HLL := Lib.hid hl0
    clear hl0
    obtain ⟨A, c, rfl⟩ := ho2.shape
    have hbx2 := hk2 _ _ hbx1 (by simp) (by simp)
    obtain ⟨t0, t1, t2, t3, _⟩ := four_ hbx2
    have hlw2 := blt_ hbx2
    have HO := Lib.hid ho2
    have HB := Lib.hid ((box_below w0 (.cells #[.int .u8 48] 5)).trans hb2)
    clear hb2 hk2 ho2 hbx hbx1 s0 s1 s2 s3 hlw
    go_wp2_with fail
    have HX := Lib.hid (new_ w2 (.cells #[.slice A2 x.cuts.length c2, .slice A3 x.kids.length c3] 28))
    have HW := Lib.hid (show WrAt w0 w2.heap.size #[.slice A2 x.cuts.length c2, .slice A3 x.kids.length c3] l0 (.slice A l0.length c) (w2.alloc (.cells #[.slice A2 x.cuts.length c2, .slice A3 x.kids.length c3] 28)) from ⟨HO.out.alloc _, HB.out.alloc HB.out.size _, HX.out⟩)
    have HL0 := Lib.hid (show l0 = preS x 0 by rw [HLL.out]; simp [preS, headS, HLF.out])
    have hll : l0.length ≤ 100 := by have := itoa_le HN.out.fact; rw [HLL.out]; simp; omega
    clear HX
    go_loopw [3, 26] (fun v3 v26 wr => ∃ (j : Nat) (l : List UInt8), j ≤ 2 ∧ v26 = .int .i64 j ∧ Hid (l = preS x j) ∧ l.length ≤ 100 + 22000001 * j ∧ Hid (WrAt w0 w2.heap.size #[.slice A2 x.cuts.length c2, .slice A3 x.kids.length c3] l v3 wr)) (fun _ v _ => 2 - (intOf v).toNat)
    case atStart => exact ⟨0, l0, by omega, rfl, HL0, hll, HW⟩
    case round =>
      clear HW HL0 hll t0 t1 t2 t3 hbx2 hlw2 HO HB HW0
      obtain ⟨j, l, hj2, rfl, HLJ, hll, hrel⟩ := hrel
      have hlb : l.length + 22 * x.cuts.length ≤ 100000000 ∨ True := .inr trivial
      by_cases hjj : j = 0
      · subst hjj
        have HI := Lib.hid HN.out.cuts
        have HII := HI1
        obtain ⟨A0, c0, rfl⟩ := hrel.out.own.shape
        have HW := hrel
        obtain ⟨m0, m1, _⟩ := two_ hrel.out.x
        have lX := blt_ hrel.out.x
        clear hrel
        go_wp2_with (at_builtin; refine app_one (R := ByteR) w0.heap.size rfl (.tmp 30) (.tmp 31) 73 5 _ 1 1 rfl Tryz.underlying73 info5 rfl (by decide) (by decide) (.slice A0 l.length c0) l 58 [.int .u8 58] rfl wr.heap.size rfl ?c0 rfl (by simp [Value.oneCell']) ?c1 ?c2 ?c3 ?_)
        case c0 => rfl
        case c1 => exact HW.out.own.own
        case c2 => exact HW.out.below.size
        case c3 => omega
        intro v1 w4 hown hg _
        have HW4 := Lib.hid (HW.out.grown (OwnAt.bytes (hown ByteR (fun _ _ _ h => h) rfl)) hg)
        clear hown hg HW m0 m1 lX
        go_wp2_with fail
        go_loopw [3, 35] (fun v3 v35 wi => ∃ (k : Nat) (li : List UInt8), k ≤ x.cuts.length ∧ v35 = .int .i64 k ∧ Hid (li = l ++ (58 :: itemsS (x.cuts.take k))) ∧ Hid (WrAt w0 w2.heap.size #[.slice A2 x.cuts.length c2, .slice A3 x.kids.length c3] li v3 wi)) (fun _ v _ => x.cuts.length - (intOf v).toNat)
        case atStart => exact ⟨0, l ++ [58], Nat.zero_le _, rfl, Lib.hid (by simp [itemsS]), HW4⟩
        case round =>
          clear HW4
          obtain ⟨k, li, hk0, rfl, HLI, HW⟩ := hrel
          have hlil : li.length ≤ 100 + 22000001 * 1 := by
            have := items_le (l := x.cuts.take k) (fun y hy => HII.out y (List.mem_of_mem_take hy))
            have h2 : (x.cuts.take k).length ≤ 1000000 := by rw [List.length_take]; omega
            rw [HLI.out]; simp only [List.length_append, List.length_cons]; omega
          by_cases hlt : k < x.cuts.length
          · obtain ⟨b, o, hA, _, hb, k0, ki⟩ := int_cell (HI.out.keep HW.out.below.size (Agree.of_below HW.out.below) (fun _ hb hs => (⟨hs, hb⟩ : (S _ ∧ _ < w.heap.size) ∧ _ < w0.heap.size))) hlt
            have HIT := Lib.hid (items_snoc hlt)
            generalize x.cuts[k] = y at *
            obtain ⟨A1, c1, rfl⟩ := HW.out.own.shape
            have hkk : (k : Int) < (x.cuts.length : Int) := by omega
            have hbw : b < w0.heap.size ∨ True := .inr trivial
            subst hA
            go_wp2_with fail
            refine (appInt w0.heap.size _ li y _ ki HW.out.own HW.out.below.size (by omega) ((Lib.tabBelow_of_tabIs HT.out).on HW.out.below)).mono ?_
            rintro e w5 ⟨v5, rfl, ho5, hb5, hk5⟩
            obtain ⟨l5, hl5⟩ : ∃ l5, l5 = li ++ Lib.itoa y := ⟨_, rfl⟩
            rw [← hl5] at ho5
            have hl5l : l5.length ≤ 100000100 := by have := itoa_le ki; rw [hl5, List.length_append]; omega
            have HL5 := Lib.hid hl5
            obtain ⟨A5, c5, rfl⟩ := ho5.shape
            have HW5 := Lib.hid (HW.out.num ho5 hb5 hk5)
            clear ho5 hb5 hk5 HW hl5 k0
            go_wp2_with (at_builtin; refine app_one (R := ByteR) w0.heap.size rfl (.tmp 41) (.tmp 42) 73 5 _ 1 1 rfl Tryz.underlying73 info5 rfl (by decide) (by decide) (.slice A5 l5.length c5) l5 44 [.int .u8 44] rfl w5.heap.size rfl ?d0 rfl (by simp [Value.oneCell']) ?d1 ?d2 ?d3 ?_)
            case d0 => rfl
            case d1 => exact HW5.out.own.own
            case d2 => exact HW5.out.below.size
            case d3 => omega
            intro v6 w6 hown hg _
            have HW6 := Lib.hid (HW5.out.grown (OwnAt.bytes (hown ByteR (fun _ _ _ h => h) rfl)) hg)
            clear hown hg HW5
            go_wp2_with fail
            go_roundw
            case rel => exact ⟨k + 1, l5 ++ [44], by omega, by go_num, Lib.hid (by rw [HL5.out, HLI.out, HIT.out]; simp), HW6⟩
            case measure => simp [intOf]; omega
          · obtain rfl : k = x.cuts.length := by omega
            go_wp2_with fail
            go_roundw
            case rel => exact ⟨1, li, by omega, by go_num, Lib.hid (by rw [HLI.out, HLJ.out, List.take_length]; simp [preS]), hlil, HW⟩
            case measure => simp [intOf]

      · by_cases hj1 : j = 1
        · subst hj1
          have HI := Lib.hid HN.out.kids
          have HII := HI2
          obtain ⟨A0, c0, rfl⟩ := hrel.out.own.shape
          have HW := hrel
          obtain ⟨m0, m1, _⟩ := two_ hrel.out.x
          have lX := blt_ hrel.out.x
          clear hrel
          go_wp2_with (at_builtin; refine app_one (R := ByteR) w0.heap.size rfl (.tmp 30) (.tmp 31) 73 5 _ 1 1 rfl Tryz.underlying73 info5 rfl (by decide) (by decide) (.slice A0 l.length c0) l 58 [.int .u8 58] rfl wr.heap.size rfl ?c0 rfl (by simp [Value.oneCell']) ?c1 ?c2 ?c3 ?_)
          case c0 => rfl
          case c1 => exact HW.out.own.own
          case c2 => exact HW.out.below.size
          case c3 => omega
          intro v1 w4 hown hg _
          have HW4 := Lib.hid (HW.out.grown (OwnAt.bytes (hown ByteR (fun _ _ _ h => h) rfl)) hg)
          clear hown hg HW m0 m1 lX
          go_wp2_with fail
          go_loopw [3, 35] (fun v3 v35 wi => ∃ (k : Nat) (li : List UInt8), k ≤ x.kids.length ∧ v35 = .int .i64 k ∧ Hid (li = l ++ (58 :: itemsS (x.kids.take k))) ∧ Hid (WrAt w0 w2.heap.size #[.slice A2 x.cuts.length c2, .slice A3 x.kids.length c3] li v3 wi)) (fun _ v _ => x.kids.length - (intOf v).toNat)
          case atStart => exact ⟨0, l ++ [58], Nat.zero_le _, rfl, Lib.hid (by simp [itemsS]), HW4⟩
          case round =>
            clear HW4
            obtain ⟨k, li, hk0, rfl, HLI, HW⟩ := hrel
            have hlil : li.length ≤ 100 + 22000001 * 2 := by
              have := items_le (l := x.kids.take k) (fun y hy => HII.out y (List.mem_of_mem_take hy))
              have h2 : (x.kids.take k).length ≤ 1000000 := by rw [List.length_take]; omega
              rw [HLI.out]; simp only [List.length_append, List.length_cons]; omega
            by_cases hlt : k < x.kids.length
            · obtain ⟨b, o, hA, _, hb, k0, ki⟩ := int_cell (HI.out.keep HW.out.below.size (Agree.of_below HW.out.below) (fun _ hb hs => (⟨hs, hb⟩ : (S _ ∧ _ < w.heap.size) ∧ _ < w0.heap.size))) hlt
              have HIT := Lib.hid (items_snoc hlt)
              generalize x.kids[k] = y at *
              obtain ⟨A1, c1, rfl⟩ := HW.out.own.shape
              have hkk : (k : Int) < (x.kids.length : Int) := by omega
              have hbw : b < w0.heap.size ∨ True := .inr trivial
              subst hA
              go_wp2_with fail
              refine (appInt w0.heap.size _ li y _ ki HW.out.own HW.out.below.size (by omega) ((Lib.tabBelow_of_tabIs HT.out).on HW.out.below)).mono ?_
              rintro e w5 ⟨v5, rfl, ho5, hb5, hk5⟩
              obtain ⟨l5, hl5⟩ : ∃ l5, l5 = li ++ Lib.itoa y := ⟨_, rfl⟩
              rw [← hl5] at ho5
              have hl5l : l5.length ≤ 100000100 := by have := itoa_le ki; rw [hl5, List.length_append]; omega
              have HL5 := Lib.hid hl5
              obtain ⟨A5, c5, rfl⟩ := ho5.shape
              have HW5 := Lib.hid (HW.out.num ho5 hb5 hk5)
              clear ho5 hb5 hk5 HW hl5 k0
              go_wp2_with (at_builtin; refine app_one (R := ByteR) w0.heap.size rfl (.tmp 41) (.tmp 42) 73 5 _ 1 1 rfl Tryz.underlying73 info5 rfl (by decide) (by decide) (.slice A5 l5.length c5) l5 44 [.int .u8 44] rfl w5.heap.size rfl ?d0 rfl (by simp [Value.oneCell']) ?d1 ?d2 ?d3 ?_)
              case d0 => rfl
              case d1 => exact HW5.out.own.own
              case d2 => exact HW5.out.below.size
              case d3 => omega
              intro v6 w6 hown hg _
              have HW6 := Lib.hid (HW5.out.grown (OwnAt.bytes (hown ByteR (fun _ _ _ h => h) rfl)) hg)
              clear hown hg HW5
              go_wp2_with fail
              go_roundw
              case rel => exact ⟨k + 1, l5 ++ [44], by omega, by go_num, Lib.hid (by rw [HL5.out, HLI.out, HIT.out]; simp), HW6⟩
              case measure => simp [intOf]; omega
            · obtain rfl : k = x.kids.length := by omega
              go_wp2_with fail
              go_roundw
              case rel => exact ⟨2, li, by omega, by go_num, Lib.hid (by rw [HLI.out, HLJ.out, List.take_length]; simp [preS]), hlil, HW⟩
              case measure => simp [intOf]

        · obtain rfl : j = 2 := by omega
          have HP := Lib.hid (show preS x 2 = writeS x from preS_end x)
          have hne : l ≠ [] := by rw [HLJ.out]; simp [preS, headS]
          have hlp : 0 < l.length := by cases l with
            | nil => exact absurd rfl hne
            | cons a t => simp
          obtain ⟨g, cg, rfl, _, _, hg, _, _, hcell⟩ := hrel.out.own.own.at_ hlp
          have hconv := run_convert_bytes_back (P := Tryz.prog) wr 73 9 5 ⟨g, 0, none⟩ cg l Tryz.underlying73 Tryz.underlying5 Tryz.underlying9 (fun i hi => by
            obtain ⟨cs, _, hR, hcc⟩ := hcell i l[i] (List.getElem?_eq_getElem hi)
            rw [hR] at hcc
            rw [add_plain]
            simpa using hcc 0 _ rfl)
          have HBE := Lib.hid (HB0.out.trans (hrel.out.below.mono (by have := HB0.out.size; omega)))
          clear hcell hne
          go_wp2_with fail
          go_ret
          exact ⟨by rw [← HP.out, ← HLJ.out]; rfl, HBE.out⟩
  · rw [hl] at HT HN
    go_enter Tryz.func87, Tryz.ntmps87
    go_upto_region 4 with fail
    have HLF := Lib.hid hl
    clear hl
    generalize hw0 : w.alloc (.cells #[.bool true, .int .i64 x.fact, .slice A2 x.cuts.length c2, .slice A3 x.kids.length c3] 55) = w0 at HT HN ⊢
    have HW0 := Lib.hid (show BytesOwn (w0.alloc (.cells #[.int .u8 49] 5)) w0.heap.size (.slice (some ⟨w0.heap.size, 0, none⟩) 1 1) [49] from ⟨rfl, .inr ⟨w0.heap.size, 1, _, rfl, Nat.le_refl _, new_ _ _, Nat.le_refl _, by decide, rfl, rfl⟩⟩)
    have hbx := new_ w (.cells #[.bool true, .int .i64 x.fact, .slice A2 x.cuts.length c2, .slice A3 x.kids.length c3] 55)
    have hz : w0.heap.size = w.heap.size + 1 := by rw [← hw0]; simp
    rw [hw0] at hbx
    rw [← hz]
    have hzz := Lib.hid hz
    clear hz
    have HB0 := Lib.hid (show Below w.heap.size w w0 from hw0 ▸ box_below w _)
    clear hw0
    have hbx1 := old_ hbx (o := .cells #[.int .u8 49] 5)
    obtain ⟨s0, s1, s2, s3, _⟩ := four_ hbx1
    have hlw := blt_ hbx1
    go_wp2_with fail
    refine (appInt w0.heap.size _ [49] x.fact _ HN.out.fact HW0.out (by simp) (by simp) ((Lib.tabBelow_of_tabIs HT.out).on (box_below _ _))).mono ?_
    rintro e w2 ⟨v3, rfl, ho2, hb2, hk2⟩
    obtain ⟨l0, hl0⟩ : ∃ l0, l0 = [49] ++ Lib.itoa x.fact := ⟨_, rfl⟩
    rw [← hl0] at ho2
    have HLL := Lib.hid hl0
    clear hl0
    obtain ⟨A, c, rfl⟩ := ho2.shape
    have hbx2 := hk2 _ _ hbx1 (by simp) (by simp)
    obtain ⟨t0, t1, t2, t3, _⟩ := four_ hbx2
    have hlw2 := blt_ hbx2
    have HO := Lib.hid ho2
    have HB := Lib.hid ((box_below w0 (.cells #[.int .u8 49] 5)).trans hb2)
    clear hb2 hk2 ho2 hbx hbx1 s0 s1 s2 s3 hlw
    go_wp2_with fail
    have HX := Lib.hid (new_ w2 (.cells #[.slice A2 x.cuts.length c2, .slice A3 x.kids.length c3] 28))
    have HW := Lib.hid (show WrAt w0 w2.heap.size #[.slice A2 x.cuts.length c2, .slice A3 x.kids.length c3] l0 (.slice A l0.length c) (w2.alloc (.cells #[.slice A2 x.cuts.length c2, .slice A3 x.kids.length c3] 28)) from ⟨HO.out.alloc _, HB.out.alloc HB.out.size _, HX.out⟩)
    have HL0 := Lib.hid (show l0 = preS x 0 by rw [HLL.out]; simp [preS, headS, HLF.out])
    have hll : l0.length ≤ 100 := by have := itoa_le HN.out.fact; rw [HLL.out]; simp; omega
    clear HX
    go_loopw [3, 26] (fun v3 v26 wr => ∃ (j : Nat) (l : List UInt8), j ≤ 2 ∧ v26 = .int .i64 j ∧ Hid (l = preS x j) ∧ l.length ≤ 100 + 22000001 * j ∧ Hid (WrAt w0 w2.heap.size #[.slice A2 x.cuts.length c2, .slice A3 x.kids.length c3] l v3 wr)) (fun _ v _ => 2 - (intOf v).toNat)
    case atStart => exact ⟨0, l0, by omega, rfl, HL0, hll, HW⟩
    case round =>
      clear HW HL0 hll t0 t1 t2 t3 hbx2 hlw2 HO HB HW0
      obtain ⟨j, l, hj2, rfl, HLJ, hll, hrel⟩ := hrel
      have hlb : l.length + 22 * x.cuts.length ≤ 100000000 ∨ True := .inr trivial
      by_cases hjj : j = 0
      · subst hjj
        have HI := Lib.hid HN.out.cuts
        have HII := HI1
        obtain ⟨A0, c0, rfl⟩ := hrel.out.own.shape
        have HW := hrel
        obtain ⟨m0, m1, _⟩ := two_ hrel.out.x
        have lX := blt_ hrel.out.x
        clear hrel
        go_wp2_with (at_builtin; refine app_one (R := ByteR) w0.heap.size rfl (.tmp 30) (.tmp 31) 73 5 _ 1 1 rfl Tryz.underlying73 info5 rfl (by decide) (by decide) (.slice A0 l.length c0) l 58 [.int .u8 58] rfl wr.heap.size rfl ?c0 rfl (by simp [Value.oneCell']) ?c1 ?c2 ?c3 ?_)
        case c0 => rfl
        case c1 => exact HW.out.own.own
        case c2 => exact HW.out.below.size
        case c3 => omega
        intro v1 w4 hown hg _
        have HW4 := Lib.hid (HW.out.grown (OwnAt.bytes (hown ByteR (fun _ _ _ h => h) rfl)) hg)
        clear hown hg HW m0 m1 lX
        go_wp2_with fail
        go_loopw [3, 35] (fun v3 v35 wi => ∃ (k : Nat) (li : List UInt8), k ≤ x.cuts.length ∧ v35 = .int .i64 k ∧ Hid (li = l ++ (58 :: itemsS (x.cuts.take k))) ∧ Hid (WrAt w0 w2.heap.size #[.slice A2 x.cuts.length c2, .slice A3 x.kids.length c3] li v3 wi)) (fun _ v _ => x.cuts.length - (intOf v).toNat)
        case atStart => exact ⟨0, l ++ [58], Nat.zero_le _, rfl, Lib.hid (by simp [itemsS]), HW4⟩
        case round =>
          clear HW4
          obtain ⟨k, li, hk0, rfl, HLI, HW⟩ := hrel
          have hlil : li.length ≤ 100 + 22000001 * 1 := by
            have := items_le (l := x.cuts.take k) (fun y hy => HII.out y (List.mem_of_mem_take hy))
            have h2 : (x.cuts.take k).length ≤ 1000000 := by rw [List.length_take]; omega
            rw [HLI.out]; simp only [List.length_append, List.length_cons]; omega
          by_cases hlt : k < x.cuts.length
          · obtain ⟨b, o, hA, _, hb, k0, ki⟩ := int_cell (HI.out.keep HW.out.below.size (Agree.of_below HW.out.below) (fun _ hb hs => (⟨hs, hb⟩ : (S _ ∧ _ < w.heap.size) ∧ _ < w0.heap.size))) hlt
            have HIT := Lib.hid (items_snoc hlt)
            generalize x.cuts[k] = y at *
            obtain ⟨A1, c1, rfl⟩ := HW.out.own.shape
            have hkk : (k : Int) < (x.cuts.length : Int) := by omega
            have hbw : b < w0.heap.size ∨ True := .inr trivial
            subst hA
            go_wp2_with fail
            refine (appInt w0.heap.size _ li y _ ki HW.out.own HW.out.below.size (by omega) ((Lib.tabBelow_of_tabIs HT.out).on HW.out.below)).mono ?_
            rintro e w5 ⟨v5, rfl, ho5, hb5, hk5⟩
            obtain ⟨l5, hl5⟩ : ∃ l5, l5 = li ++ Lib.itoa y := ⟨_, rfl⟩
            rw [← hl5] at ho5
            have hl5l : l5.length ≤ 100000100 := by have := itoa_le ki; rw [hl5, List.length_append]; omega
            have HL5 := Lib.hid hl5
            obtain ⟨A5, c5, rfl⟩ := ho5.shape
            have HW5 := Lib.hid (HW.out.num ho5 hb5 hk5)
            clear ho5 hb5 hk5 HW hl5 k0
            go_wp2_with (at_builtin; refine app_one (R := ByteR) w0.heap.size rfl (.tmp 41) (.tmp 42) 73 5 _ 1 1 rfl Tryz.underlying73 info5 rfl (by decide) (by decide) (.slice A5 l5.length c5) l5 44 [.int .u8 44] rfl w5.heap.size rfl ?d0 rfl (by simp [Value.oneCell']) ?d1 ?d2 ?d3 ?_)
            case d0 => rfl
            case d1 => exact HW5.out.own.own
            case d2 => exact HW5.out.below.size
            case d3 => omega
            intro v6 w6 hown hg _
            have HW6 := Lib.hid (HW5.out.grown (OwnAt.bytes (hown ByteR (fun _ _ _ h => h) rfl)) hg)
            clear hown hg HW5
            go_wp2_with fail
            go_roundw
            case rel => exact ⟨k + 1, l5 ++ [44], by omega, by go_num, Lib.hid (by rw [HL5.out, HLI.out, HIT.out]; simp), HW6⟩
            case measure => simp [intOf]; omega
          · obtain rfl : k = x.cuts.length := by omega
            go_wp2_with fail
            go_roundw
            case rel => exact ⟨1, li, by omega, by go_num, Lib.hid (by rw [HLI.out, HLJ.out, List.take_length]; simp [preS]), hlil, HW⟩
            case measure => simp [intOf]

      · by_cases hj1 : j = 1
        · subst hj1
          have HI := Lib.hid HN.out.kids
          have HII := HI2
          obtain ⟨A0, c0, rfl⟩ := hrel.out.own.shape
          have HW := hrel
          obtain ⟨m0, m1, _⟩ := two_ hrel.out.x
          have lX := blt_ hrel.out.x
          clear hrel
          go_wp2_with (at_builtin; refine app_one (R := ByteR) w0.heap.size rfl (.tmp 30) (.tmp 31) 73 5 _ 1 1 rfl Tryz.underlying73 info5 rfl (by decide) (by decide) (.slice A0 l.length c0) l 58 [.int .u8 58] rfl wr.heap.size rfl ?c0 rfl (by simp [Value.oneCell']) ?c1 ?c2 ?c3 ?_)
          case c0 => rfl
          case c1 => exact HW.out.own.own
          case c2 => exact HW.out.below.size
          case c3 => omega
          intro v1 w4 hown hg _
          have HW4 := Lib.hid (HW.out.grown (OwnAt.bytes (hown ByteR (fun _ _ _ h => h) rfl)) hg)
          clear hown hg HW m0 m1 lX
          go_wp2_with fail
          go_loopw [3, 35] (fun v3 v35 wi => ∃ (k : Nat) (li : List UInt8), k ≤ x.kids.length ∧ v35 = .int .i64 k ∧ Hid (li = l ++ (58 :: itemsS (x.kids.take k))) ∧ Hid (WrAt w0 w2.heap.size #[.slice A2 x.cuts.length c2, .slice A3 x.kids.length c3] li v3 wi)) (fun _ v _ => x.kids.length - (intOf v).toNat)
          case atStart => exact ⟨0, l ++ [58], Nat.zero_le _, rfl, Lib.hid (by simp [itemsS]), HW4⟩
          case round =>
            clear HW4
            obtain ⟨k, li, hk0, rfl, HLI, HW⟩ := hrel
            have hlil : li.length ≤ 100 + 22000001 * 2 := by
              have := items_le (l := x.kids.take k) (fun y hy => HII.out y (List.mem_of_mem_take hy))
              have h2 : (x.kids.take k).length ≤ 1000000 := by rw [List.length_take]; omega
              rw [HLI.out]; simp only [List.length_append, List.length_cons]; omega
            by_cases hlt : k < x.kids.length
            · obtain ⟨b, o, hA, _, hb, k0, ki⟩ := int_cell (HI.out.keep HW.out.below.size (Agree.of_below HW.out.below) (fun _ hb hs => (⟨hs, hb⟩ : (S _ ∧ _ < w.heap.size) ∧ _ < w0.heap.size))) hlt
              have HIT := Lib.hid (items_snoc hlt)
              generalize x.kids[k] = y at *
              obtain ⟨A1, c1, rfl⟩ := HW.out.own.shape
              have hkk : (k : Int) < (x.kids.length : Int) := by omega
              have hbw : b < w0.heap.size ∨ True := .inr trivial
              subst hA
              go_wp2_with fail
              refine (appInt w0.heap.size _ li y _ ki HW.out.own HW.out.below.size (by omega) ((Lib.tabBelow_of_tabIs HT.out).on HW.out.below)).mono ?_
              rintro e w5 ⟨v5, rfl, ho5, hb5, hk5⟩
              obtain ⟨l5, hl5⟩ : ∃ l5, l5 = li ++ Lib.itoa y := ⟨_, rfl⟩
              rw [← hl5] at ho5
              have hl5l : l5.length ≤ 100000100 := by have := itoa_le ki; rw [hl5, List.length_append]; omega
              have HL5 := Lib.hid hl5
              obtain ⟨A5, c5, rfl⟩ := ho5.shape
              have HW5 := Lib.hid (HW.out.num ho5 hb5 hk5)
              clear ho5 hb5 hk5 HW hl5 k0
              go_wp2_with (at_builtin; refine app_one (R := ByteR) w0.heap.size rfl (.tmp 41) (.tmp 42) 73 5 _ 1 1 rfl Tryz.underlying73 info5 rfl (by decide) (by decide) (.slice A5 l5.length c5) l5 44 [.int .u8 44] rfl w5.heap.size rfl ?d0 rfl (by simp [Value.oneCell']) ?d1 ?d2 ?d3 ?_)
              case d0 => rfl
              case d1 => exact HW5.out.own.own
              case d2 => exact HW5.out.below.size
              case d3 => omega
              intro v6 w6 hown hg _
              have HW6 := Lib.hid (HW5.out.grown (OwnAt.bytes (hown ByteR (fun _ _ _ h => h) rfl)) hg)
              clear hown hg HW5
              go_wp2_with fail
              go_roundw
              case rel => exact ⟨k + 1, l5 ++ [44], by omega, by go_num, Lib.hid (by rw [HL5.out, HLI.out, HIT.out]; simp), HW6⟩
              case measure => simp [intOf]; omega
            · obtain rfl : k = x.kids.length := by omega
              go_wp2_with fail
              go_roundw
              case rel => exact ⟨2, li, by omega, by go_num, Lib.hid (by rw [HLI.out, HLJ.out, List.take_length]; simp [preS]), hlil, HW⟩
              case measure => simp [intOf]

        · obtain rfl : j = 2 := by omega
          have HP := Lib.hid (show preS x 2 = writeS x from preS_end x)
          have hne : l ≠ [] := by rw [HLJ.out]; simp [preS, headS]
          have hlp : 0 < l.length := by cases l with
            | nil => exact absurd rfl hne
            | cons a t => simp
          obtain ⟨g, cg, rfl, _, _, hg, _, _, hcell⟩ := hrel.out.own.own.at_ hlp
          have hconv := run_convert_bytes_back (P := Tryz.prog) wr 73 9 5 ⟨g, 0, none⟩ cg l Tryz.underlying73 Tryz.underlying5 Tryz.underlying9 (fun i hi => by
            obtain ⟨cs, _, hR, hcc⟩ := hcell i l[i] (List.getElem?_eq_getElem hi)
            rw [hR] at hcc
            rw [add_plain]
            simpa using hcc 0 _ rfl)
          have HBE := Lib.hid (HB0.out.trans (hrel.out.below.mono (by have := HB0.out.size; omega)))
          clear hcell hne
          go_wp2_with fail
          go_ret
          exact ⟨by rw [← HP.out, ← HLJ.out]; rfl, HBE.out⟩
end Go.Proofs.YtfajbcjcigajfaaGreatDoor
namespace Go.Proofs.YtfajbcjcigajfaaGreatDoor
open Go.RowKit

/-! Different nodes have different texts. -/
theorem digit_val {d : Nat} (h : d < 10) : (UInt8.ofNat (48 + d)).toNat = 48 + d := by
  simp; omega
theorem dec_val : ∀ (n u : Nat), u ≤ n → (Lib.decDigits u).foldl (fun a b => a * 10 + (b.toNat - 48)) 0 = u
  | n, u, h => by
    rw [Lib.decDigits]
    split
    · rename_i h10
      simp only [List.foldl_cons, List.foldl_nil, digit_val h10]; omega
    · rename_i h10
      match n with
      | 0 => omega
      | n + 1 =>
        rw [List.foldl_append, dec_val n (u / 10) (by omega)]
        simp only [List.foldl_cons, List.foldl_nil, digit_val (Nat.mod_lt u (by decide : 0 < 10))]
        omega
theorem dec_inj {a b : Nat} (h : Lib.decDigits a = Lib.decDigits b) : a = b := by
  have h1 := dec_val a a (Nat.le_refl _)
  have h2 := dec_val b b (Nat.le_refl _)
  rw [h] at h1
  exact h1.symm.trans h2
theorem dec_digit : ∀ (n u : Nat), u ≤ n → ∀ b ∈ Lib.decDigits u, 48 ≤ b.toNat ∧ b.toNat ≤ 57
  | n, u, h, b, hb => by
    rw [Lib.decDigits] at hb
    split at hb
    · rename_i h10
      simp only [List.mem_singleton] at hb
      subst hb
      rw [digit_val h10]; omega
    · rename_i h10
      match n with
      | 0 => omega
      | n + 1 =>
        rcases List.mem_append.1 hb with hb | hb
        · exact dec_digit n (u / 10) (by omega) b hb
        · simp only [List.mem_singleton] at hb
          subst hb
          rw [digit_val (Nat.mod_lt u (by decide : 0 < 10))]
          have := Nat.mod_lt u (by decide : 0 < 10)
          omega
theorem dec_ne (u : Nat) : Lib.decDigits u ≠ [] := by
  rw [Lib.decDigits]
  split <;> simp
theorem itoa_byte (n : Int) : ∀ b ∈ Lib.itoa n, b.toNat = 45 ∨ (48 ≤ b.toNat ∧ b.toNat ≤ 57) := by
  intro b hb
  unfold Lib.itoa at hb
  split at hb
  · rcases List.mem_cons.1 hb with rfl | hb
    · exact .inl rfl
    · exact .inr (dec_digit _ _ (Nat.le_refl _) b hb)
  · exact .inr (dec_digit _ _ (Nat.le_refl _) b hb)
theorem itoa_inj {a b : Int} (h : Lib.itoa a = Lib.itoa b) : a = b := by
  have hd : ∀ (u : Nat) (l : List UInt8), Lib.decDigits u = 45 :: l → False := fun u l h => by
    have := dec_digit u u (Nat.le_refl _) 45 (by rw [h]; simp)
    simp at this
  unfold Lib.itoa at h
  split at h <;> split at h
  · simp only [List.cons.injEq, true_and] at h
    have := dec_inj h
    omega
  · exact (hd _ _ h.symm).elim
  · exact (hd _ _ h).elim
  · have := dec_inj h
    omega
theorem itoa_ne (n : Int) : Lib.itoa n ≠ [] := by
  unfold Lib.itoa
  split
  · simp
  · exact dec_ne _
/-- What stands before the first sep is told apart. -/
theorem split_at {sep : UInt8} : ∀ {a b r s : List UInt8}, (∀ x ∈ a, x ≠ sep) → (∀ x ∈ b, x ≠ sep) → a ++ sep :: r = b ++ sep :: s → a = b ∧ r = s
  | [], [], r, s, _, _, h => by simpa using h
  | [], y :: b, r, s, _, hb, h => by
    simp only [List.nil_append, List.cons_append, List.cons.injEq] at h
    exact absurd h.1.symm (hb y (by simp))
  | x :: a, [], r, s, ha, _, h => by
    simp only [List.nil_append, List.cons_append, List.cons.injEq] at h
    exact absurd h.1 (ha x (by simp))
  | x :: a, y :: b, r, s, ha, hb, h => by
    simp only [List.cons_append, List.cons.injEq] at h
    obtain ⟨h1, h2⟩ := split_at (fun x hx => ha x (by simp [hx])) (fun x hx => hb x (by simp [hx])) h.2
    exact ⟨by rw [h.1, h1], h2⟩
theorem itoa_sep (n : Int) {sep : UInt8} (h : sep.toNat ≠ 45 ∧ (sep.toNat < 48 ∨ 57 < sep.toNat)) : ∀ x ∈ Lib.itoa n, x ≠ sep := by
  rintro x hx rfl
  rcases itoa_byte n x hx with h1 | h1 <;> omega
theorem items_byte : ∀ (l : List Int), ∀ x ∈ itemsS l, x ≠ 58 := by
  intro l x hx
  unfold itemsS at hx
  obtain ⟨k, _, hk⟩ := List.mem_flatMap.1 hx
  rcases List.mem_append.1 hk with hk | hk
  · exact itoa_sep k (by decide) x hk
  · simp at hk; subst hk; decide
theorem items_inj : ∀ {a b : List Int}, itemsS a = itemsS b → a = b
  | [], [], _ => rfl
  | [], y :: b, h => by simp [itemsS] at h
  | x :: a, [], h => by simp [itemsS] at h
  | x :: a, y :: b, h => by
    have h' : Lib.itoa x ++ 44 :: itemsS a = Lib.itoa y ++ 44 :: itemsS b := by simpa [itemsS] using h
    obtain ⟨h1, h2⟩ := split_at (itoa_sep x (by decide)) (itoa_sep y (by decide)) h'
    rw [itoa_inj h1, items_inj h2]
theorem write_inj {x y : Nd} (h : writeS x = writeS y) : x = y := by
  obtain ⟨a, b, c, d⟩ := x
  obtain ⟨a', b', c', d'⟩ := y
  simp only [writeS, List.cons.injEq, List.append_assoc, List.cons_append] at h
  obtain ⟨h1, h2⟩ := h
  obtain ⟨h3, h4⟩ := split_at (itoa_sep b (by decide)) (itoa_sep b' (by decide)) h2
  obtain ⟨h5, h6⟩ := split_at (items_byte c) (items_byte c') h4
  have e1 : a = a' := by cases a <;> cases a' <;> simp at h1 ⊢
  rw [e1, itoa_inj h3, items_inj h5, items_inj h6]
theorem bytesOf_inj {a b : List UInt8} (h : bytesOf a = bytesOf b) : a = b := by
  have := congrArg (fun s => s.data.toList) h
  simpa [bytesOf] using this
end Go.Proofs.YtfajbcjcigajfaaGreatDoor
