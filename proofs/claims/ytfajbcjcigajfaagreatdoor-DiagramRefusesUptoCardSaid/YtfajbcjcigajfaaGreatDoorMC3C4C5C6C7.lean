/- Part of the proof of a law of customhouselaw26: the texts C3 C4 C5 C6 C7. -/
import Derived.Laws.RangeAny
import Derived.Laws.Strings3
import Derived.Deep.LoopGhost
import Derived.Test.YtfajbcjcigajfaaGreatDoorMB1C1C2
import Derived.Test.YtfajbcjcigajfaaGreatDoorMShelf
namespace Go.Proofs.YtfajbcjcigajfaaGreatDoor
open Go.RowKit

/-- Classes lie in block b. -/
def ClsArg (w : World) (b : Nat) (cl : List Int) : Prop := ∀ j, j < cl.length → w.cell? ⟨b, 0 + j, none⟩ = some (.int .i64 (cl.getD j 0))
theorem ClsArg.below {w w' : World} {b : Nat} {cl : List Int} (h : ClsArg w b cl) (hb : Below w.heap.size w w') : ClsArg w' b cl := fun j hj => (hb.cell (p := ⟨b, 0 + j, none⟩) (cell_lt (h j hj))).trans (h j hj)
/-- How far 'while' goes. -/
def WhileP (s : ByteArray) (cl : List Int) (i j : Nat) : Prop := i ≤ j ∧ (i ≤ s.size → j ≤ s.size) ∧ (∀ k, i ≤ k → k < j → cl.contains (clsAt s k) = true) ∧ (j < s.size → cl.contains (clsAt s j) = false)
def WhileE (s : ByteArray) (cl : List Int) (i : Nat) (w : World) (e : Ending) (w' : World) : Prop := ∃ j : Nat, e = .returned (.int .i64 j) ∧ WhileP s cl i j ∧ Below w.heap.size w w'
set_option maxRecDepth 100000 in
set_option maxHeartbeats 1000000 in
theorem while_any (s : ByteArray) (b i bc : Nat) (cl : List Int) (w : World) (hs : s.size ≤ 140737488351232) (hi : i ≤ 140737488351232) (hcl : cl.length ≤ 10) (h : ScanAt w b s) (hc : ClsArg w bc cl) :
    Calls Tryz.prog 164 #[.pointer (some ⟨b, 0, none⟩), .int .i64 i, .slice (some ⟨bc, 0, none⟩) cl.length cl.length] w (WhileE s cl i w) := by
  go_enter Tryz.func164, Tryz.ntmps164
  go_wp2_with fail
  go_loopw [1] (fun v wr => ∃ j : Nat, i ≤ j ∧ j ≤ 140737488351232 ∧ v = .int .i64 j ∧ Hid (i ≤ s.size → j ≤ s.size) ∧ Hid (∀ k, i ≤ k → k < j → cl.contains (clsAt s k) = true) ∧ Hid (Below w.heap.size w wr)) (fun v _ => s.size - (intOf v).toNat)
  case atStart => exact ⟨i, Nat.le_refl _, hi, rfl, Lib.hid (fun h => h), Lib.hid (fun k h1 h2 => by omega), Lib.hid (Below.refl _ _)⟩
  case round =>
    obtain ⟨j, hij, hj2, rfl, HS, HC, HB⟩ := hrel
    have hsc := h.below HB.out
    have h0 := hsc.text
    by_cases hlt : j < s.size
    · have HA := Lib.hid (hc.below HB.out)
      go_wp2_with fail
      refine (at_any s b j wr hs hsc).mono ?_
      rintro e w1 ⟨rfl, n, hw1⟩
      have HW := Lib.hid (show Below wr.heap.size wr w1 from hw1 ▸ drewN_below wr n)
      clear hw1
      have HB2 := Lib.hid (bthen HB.out HW.out)
      have HA2 := Lib.hid (HA.out.below HW.out)
      clear HW HA HB hsc h0
      go_wp2_with fail
      refine (Tryz.slices_Contains_int bc 0 cl.length cl.length cl _ w1 (Nat.le_refl _) (by omega) HA2.out).mono ?_
      rintro e w2 ⟨rfl, rfl⟩
      rw [List.take_length]
      cases hcc : cl.contains (clsAt s j)
      · have HX := Lib.hid hcc
        clear hcc
        go_wp2_with fail
        go_ret
        exact ⟨j, rfl, ⟨hij, HS.out, HC.out, fun _ => HX.out⟩, HB2.out⟩
      · have HX := Lib.hid (show ∀ k, i ≤ k → k < j + 1 → cl.contains (clsAt s k) = true from fun k h1 h2 => by
          by_cases e : k = j
          · rw [e]; exact hcc
          · exact HC.out k h1 (by omega))
        clear hcc
        go_wp2_with fail
        go_roundw
        case rel => exact ⟨j + 1, by omega, by omega, by go_num, Lib.hid (fun _ => by omega), HX, HB2⟩
        case measure => simp [intOf]; omega
    · go_wp2_with fail
      go_ret
      exact ⟨j, rfl, ⟨hij, HS.out, HC.out, fun h => by omega⟩, HB.out⟩
end Go.Proofs.YtfajbcjcigajfaaGreatDoor
namespace Go.Proofs.YtfajbcjcigajfaaGreatDoor
open Go.RowKit

def GapP (s : ByteArray) (i j : Nat) : Prop := i ≤ j ∧ (i ≤ s.size → j ≤ s.size) ∧ (i < s.size → clsAt s i = 3 → j = i)
def GapE (s : ByteArray) (i : Nat) (w : World) (e : Ending) (w' : World) : Prop := ∃ j : Nat, e = .returned (.int .i64 j) ∧ GapP s i j ∧ Below w.heap.size w w'
theorem byte_data {s : ByteArray} {i : Nat} (h : i < s.size) : s.data.toList[i]? = some (UInt8.ofNat (byteN s i)) := by
  rw [byteN_at h, UInt8.ofNat_toNat, List.getElem?_eq_getElem (by rw [data_len]; exact h)]
  rfl
/-- Where the line ends behind a '#'. -/
theorem nl_at {s : ByteArray} {i : Nat} {r : Int} (hr : Lib.indexByte ((s.extract i s.size).data.toList) ((10 : Int).toNat.toUInt8) = r) (h : clsAt s i = 2) (hi : i < s.size) : r = -1 ∨ ∃ n : Nat, r = n ∧ 0 < n ∧ i + n < s.size := by
  rw [Lib.extract_to_end] at hr
  have hge := Lib.indexByte_ge (s.data.toList.drop i) ((10 : Int).toNat.toUInt8)
  rw [hr] at hge
  by_cases h1 : r = -1
  · exact .inl h1
  · right
    obtain ⟨n, rfl⟩ : ∃ n : Nat, r = n := ⟨r.toNat, by omega⟩
    obtain ⟨h2, _⟩ := Lib.indexByte_some hr
    rw [List.getElem?_drop] at h2
    have h3 := (List.getElem?_eq_some_iff.1 h2).1
    rw [data_len] at h3
    refine ⟨n, rfl, ?_, h3⟩
    rcases Nat.eq_zero_or_pos n with h4 | h4
    · subst h4
      rw [Nat.add_zero, byte_data hi] at h2
      injection h2 with h2
      have h5 := congrArg UInt8.toNat h2
      have h6 := byteN_lt s i
      have h7 : byteN s i = 10 := by
        have : (UInt8.ofNat (byteN s i)).toNat = byteN s i := by simp; omega
        rw [← this, h5]; rfl
      simp [clsAt, hi, h7, clsI, letterB] at h
    · exact h4
/-- 'while' over blanks, its class lying in the world's last block. -/
theorem blank_any (s : ByteArray) (b i : Nat) (w : World) (hs : s.size ≤ 20000) (hi : i ≤ s.size) (h : ScanAt w b s) :
    Calls Tryz.prog 164 #[.pointer (some ⟨b, 0, none⟩), .int .i64 i, .slice (some ⟨w.heap.size, 0, none⟩) 1 1] (w.alloc (.cells #[.int .i64 1] 3)) fun e w' => ∃ j : Nat, e = .returned (.int .i64 j) ∧ i ≤ j ∧ j ≤ s.size ∧ GapP s i j ∧ Below w.heap.size w w' := by
  refine (while_any s b i w.heap.size [1] _ (by omega) (by omega) (by simp) (h.below ((Below.refl _ _).alloc (Nat.le_refl _) _)) (fun j hj => by
    obtain rfl : j = 0 := by simp at hj; omega
    simp [go_sem])).mono ?_
  rintro e w1 ⟨j, rfl, ⟨h1, h2, h3, h4⟩, hb⟩
  refine ⟨j, rfl, h1, h2 hi, ⟨h1, h2, fun h5 h6 => ?_⟩, bthen ((Below.refl w.heap.size w).alloc (Nat.le_refl _) _) hb⟩
  rcases Nat.lt_or_ge i j with h7 | h7
  · have := h3 i (Nat.le_refl _) h7
    rw [h6] at this; simp at this
  · omega
set_option maxRecDepth 100000 in
set_option maxHeartbeats 1000000 in
theorem gap_any (s : ByteArray) (b i : Nat) (w : World) (hs : s.size ≤ 20000) (hi : i ≤ s.size) (h : ScanAt w b s) :
    Calls Tryz.prog 147 #[.pointer (some ⟨b, 0, none⟩), .int .i64 i] w (GapE s i w) := by
  go_enter Tryz.func147, Tryz.ntmps147
  go_wp2_with fail
  refine (blank_any s b i w hs hi h).mono ?_
  rintro e w1 ⟨j, rfl, hij, hj, hP, hb⟩
  have HP := Lib.hid hP
  have HB := Lib.hid hb
  clear hP hb
  go_wp2_with fail
  go_loopw [1, 5] (fun v _ wr => ∃ j : Nat, i ≤ j ∧ j ≤ s.size ∧ v = .int .i64 j ∧ Hid (GapP s i j) ∧ Hid (Below w.heap.size w wr)) (fun v _ _ => s.size - (intOf v).toNat)
  case atStart => exact ⟨j, hij, hj, rfl, HP, HB⟩
  case round =>
    clear HP HB hij hj
    obtain ⟨q, hij, hj, rfl, HP, HB⟩ := hrel
    have hsc := h.below HB.out
    have h0 := hsc.text
    go_wp2_with fail
    refine (at_any s b q wr (by omega) hsc).mono ?_
    rintro e w2 ⟨rfl, n, hw2⟩
    have hb2 : Below wr.heap.size wr w2 := hw2 ▸ drewN_below wr n
    have HB2 := Lib.hid (bthen HB.out hb2)
    have h02 := (hsc.below hb2).text
    have hsc2 := hsc.below hb2
    clear hb2 hw2 HB h0 hsc
    by_cases h2 : clsAt s q = 2
    · have hlt : q < s.size := by
        rcases Nat.lt_or_ge q s.size with h' | h'
        · exact h'
        · simp [clsAt, show ¬ q < s.size by omega] at h2
      obtain ⟨r, hr⟩ : ∃ r, Lib.indexByte ((s.extract q s.size).data.toList) ((10 : Int).toNat.toUInt8) = r := ⟨_, rfl⟩
      have hn := nl_at hr h2 hlt
      have HR := Lib.hid hr
      have HJ := Lib.hid (show GapP s i q from HP.out)
      rw [h2]
      clear hr
      have H2 := Lib.hid h2
      clear h2
      go_wp2_with fail
      refine (Tryz.strings_IndexByte _ _ _).mono ?_
      rintro e w3 ⟨rfl, rfl⟩
      rw [HR.out]
      rcases hn with rfl | ⟨m, rfl, hm0, hm⟩
      · go_wp2_with fail
        go_ret
        exact ⟨s.size, rfl, ⟨hi, fun _ => Nat.le_refl _, fun h5 h6 => by
          have := HJ.out.2.2 h5 h6
          have h7 := H2.out
          rw [this, h6] at h7
          omega⟩, HB2.out⟩
      · go_wp2_with fail
        rw [show ((q : Int) + (m : Int)) = ((q + m : Nat) : Int) from by omega]
        refine (blank_any s b (q + m) w3 hs (by omega) hsc2).mono ?_
        rintro e w4 ⟨j2, rfl, hj1, hj2, hP2, hb4⟩
        have HB4 := Lib.hid (bthen HB2.out hb4)
        have HP4 := Lib.hid (show GapP s i j2 from ⟨by omega, fun _ => hj2, fun h5 h6 => by
          have := HJ.out.2.2 h5 h6
          have h7 := H2.out
          rw [this, h6] at h7
          omega⟩)
        clear hb4 hP2 HB2 HJ H2 HR HP h02 hsc2
        go_wp2_with fail
        go_roundw
        case rel => exact ⟨j2, by omega, hj2, rfl, HP4, HB4⟩
        case measure => simp [intOf]; omega
    · have h2' : (clsAt s q == 2) = false := by simpa using h2
      clear h2
      go_wp2_with fail
      go_ret
      exact ⟨q, rfl, HP.out, HB2.out⟩
end Go.Proofs.YtfajbcjcigajfaaGreatDoor
namespace Go.Proofs.YtfajbcjcigajfaaGreatDoor
open Go.RowKit

def nlq : ByteArray := ⟨#[34, 10]⟩
/-- Some number; nothing that was there has turned. -/
def SomeInt (w : World) (e : Ending) (w' : World) : Prop := ∃ x : Int, I64 x ∧ e = .returned (.int .i64 x) ∧ Below w.heap.size w w'
theorem iter_below (w : World) (s : ByteArray) (p : Nat) : Below w.heap.size w (w.iter s p) := (Below.refl _ _).alloc (Nat.le_refl _) _
theorem enc2 {r : Nat} (h1 : 128 ≤ r) (h2 : r < 2048) : ∃ x y : UInt8, Utf8.encode (r : Int) = ⟨#[x, y]⟩ ∧ 128 ≤ y.toNat := by
  have hv : Utf8.valid (r : Int) = true := by simp [Utf8.valid]; omega
  refine ⟨UInt8.ofNat (0xC0 + r / 64), UInt8.ofNat (0x80 + r % 64), ?_, ?_⟩
  · simp only [Utf8.encode, hv, if_true, Int.toNat_natCast]
    rw [if_neg (by omega), if_pos (by omega)]
  · simp; omega
theorem data_len' (a : Array UInt8) : (ByteArray.mk a).size = a.size := rfl
theorem enc34 {r : Nat} (h1 : 2048 ≤ r) : 3 ≤ (Utf8.encode (r : Int)).size ∧ (Utf8.encode (r : Int)).size ≤ 4 := by
  simp only [Utf8.encode]
  split
  · simp only [Int.toNat_natCast]
    rw [if_neg (by omega), if_neg (by omega)]
    split <;> exact ⟨by simp only [data_len', Array.size, List.length]; decide, by simp only [data_len', Array.size, List.length]; decide⟩
  · decide
theorem nl_big {x : UInt8} (h : 128 ≤ x.toNat) : Lib.indexByte [34, 10] x = -1 := by
  have h1 : (34 == x) = false := by
    simp only [beq_eq_false_iff_ne]; rintro rfl; simp at h
  have h2 : (10 == x) = false := by
    simp only [beq_eq_false_iff_ne]; rintro rfl; simp at h
  simp [Lib.indexByte, h1, h2]
set_option maxRecDepth 1000000 in
set_option maxHeartbeats 2000000 in
theorem indexRune_nl (r : Nat) (hr : r ≤ 2147483647) (w : World) :
    Calls Tryz.prog 177 #[.string nlq, .int .i32 r] w (SomeInt w) := by
  by_cases h1 : r < 128
  · refine (Tryz.strings_IndexRune_ascii nlq r w (by omega) (by omega)).mono ?_
    rintro e w' ⟨rfl, rfl⟩
    refine ⟨_, ?_, rfl, Below.refl _ _⟩
    have h2 := Lib.indexByte_ge nlq.data.toList (r : Int).toNat.toUInt8
    constructor
    · omega
    · show Lib.indexByte [34, 10] _ ≤ _
      simp only [Lib.indexByte]
      repeat' split
      all_goals omega
  have hd1 : decide ((r : Int) < 128) = false := by simp; omega
  by_cases h2 : r = 65533
  · subst h2
    clear h1 hd1
    have hn0 := fun ty => run_next_ascii (P := Tryz.prog) w nlq 0 ty (by decide) (by decide)
    have hn1 := fun ty => run_next_ascii (P := Tryz.prog) w nlq 1 ty (by decide) (by decide)
    have hn2 := fun ty => run_next_end (P := Tryz.prog) w nlq 2 ty (by decide)
    go_enter Tryz.func177, Tryz.ntmps177
    go_wp2_with fail
    go_loopg [5, 6] 2 (fun g _ _ wx => ∃ i : Nat, i + g = 2 ∧ wx = w.iter nlq i)
    case atStart => exact ⟨0, by omega, rfl⟩
    case round =>
      obtain ⟨i, hig, rfl⟩ := hrel
      cases gk with
      | zero =>
        obtain rfl : i = 2 := by omega
        go_wp2_with fail
        go_ret
        exact ⟨-1, by simp [I64], rfl, iter_below _ _ _⟩
      | succ g =>
        rcases (show i = 0 ∨ i = 1 by omega) with rfl | rfl
        · go_wp2_with fail
          go_roundg g
          case measure => omega
          case rel => exact ⟨1, by omega, rfl⟩
        · go_wp2_with fail
          go_roundg g
          case measure => omega
          case rel => exact ⟨2, by omega, rfl⟩
  · have h2' : ((r : Int) == 65533) = false := by simp; omega
    clear h2
    cases hv : Lib.validRune (r : Int)
    · go_enter Tryz.func177, Tryz.ntmps177
      go_wp2_with (first | (go_at_call 189; refine (Tryz.utf8_ValidRune _ _).mono ?_; rintro e w5 ⟨rfl, rfl⟩; rw [hv]))
      go_ret
      exact ⟨-1, by simp [I64], rfl, Below.refl _ _⟩
    · by_cases h3 : r < 2048
      · obtain ⟨x, y, he, hy⟩ := enc2 (by omega) h3
        have hs1 : (ByteArray.mk #[x, y]).size = 2 := rfl
        have hs2 : nlq.size = 2 := rfl
        have hl1 : ((ByteArray.mk #[x, y])[1]'(by show 1 < 2; decide)) = y := rfl
        have hl2 : (nlq[1]'(by decide)) = 10 := rfl
        obtain ⟨q, hq⟩ : ∃ q, q = nlq := ⟨_, rfl⟩
        obtain ⟨en, hen⟩ : ∃ en, en = ByteArray.mk #[x, y] := ⟨_, rfl⟩
        have hs1' : 1 < en.size := by rw [hen]; show 1 < 2; decide
        have hs2' : 1 < q.size := by rw [hq]; decide
        have hne : ((q[1].toNat : Int) != (en[1].toNat : Int)) = true := by
          subst hq hen
          rw [hl2, hl1]
          simp
          omega
        have HF := Lib.hid (show Lib.indexByte (ByteArray.empty).data.toList ((en[1].toNat : Int).toNat.toUInt8) = -1 from rfl)
        rw [← hq] at hs2 ⊢
        rw [← hen] at he hs1
        clear hl1 hl2 hq hen hy
        have hq1 : decide ((1 : Int) < (q.size : Int)) = true := by rw [hs2]; decide
        have hq2 : (1 : Int) < (q.size : Int) := by rw [hs2]; decide
        have hq3 : (2 : Int) ≤ (q.size : Int) := by rw [hs2]; decide
        have he2 : (1 : Int) < (en.size : Int) := by rw [hs1]; decide
        go_enter Tryz.func177, Tryz.ntmps177
        go_wp2_with (first | (go_at_call 189; refine (Tryz.utf8_ValidRune _ _).mono ?_; rintro e w5 ⟨rfl, rfl⟩; rw [hv]))
        go_step3
        go_wp2_with fail
        go_loopw [9] (fun v wr => v = .int .i64 1 ∧ Hid (Below w5.heap.size w5 wr)) (fun _ _ => 0)
        case atStart => exact ⟨rfl, Lib.hid (Below.refl _ _)⟩
        case round =>
          obtain ⟨rfl, HB⟩ := hrel
          go_wp2_with fail
          go_step3
          go_wp2_with fail
          go_quiet (fail)
          go_wp2_with fail
          go_quiet (first | (go_at_call 166; exact (Tryz.strings_IndexByte _ _ _).mono (fun e w h => ⟨h.1, _, h.2⟩)))
          rw [HF.out]
          go_wp2_with fail
          rw [Exit.noGoto_ret]
          go_ret
          exact ⟨-1, by simp [I64], rfl, bthen HB.out (drewN_below _ _)⟩
      · obtain ⟨h4, h5⟩ := enc34 (r := r) (by omega)
        have h6 : (2 : Int) ≤ ((Utf8.encode (r : Int)).size : Int) - 1 := by omega
        have hq : nlq.size = 2 := rfl
        have h7 : decide (((Utf8.encode (r : Int)).size : Int) - 1 < (nlq.size : Int)) = false := by rw [hq]; simp; omega
        clear h6 hq
        generalize hn : (Utf8.encode (r : Int)).size = n at h7 h4 h5
        go_enter Tryz.func177, Tryz.ntmps177
        go_wp2_with (first | (go_at_call 189; refine (Tryz.utf8_ValidRune _ _).mono ?_; rintro e w5 ⟨rfl, rfl⟩; rw [hv]))
        go_step3
        go_wp2_with fail
        go_loopw [9] (fun v wr => v = .int .i64 ((n : Int) - 1) ∧ Hid (Below w5.heap.size w5 wr)) (fun _ _ => 0)
        case atStart => exact ⟨rfl, Lib.hid (Below.refl _ _)⟩
        case round =>
          obtain ⟨rfl, HB⟩ := hrel
          go_wp2_with fail
          rw [Exit.noGoto_ret]
          go_ret
          exact ⟨-1, by simp [I64], rfl, HB.out⟩
end Go.Proofs.YtfajbcjcigajfaaGreatDoor
namespace Go.Proofs.YtfajbcjcigajfaaGreatDoor
open Go.RowKit

/-- Nothing, or a place in s. -/
def SomePlace (s : ByteArray) (w : World) (e : Ending) (w' : World) : Prop := ∃ x : Int, (x = -1 ∨ ∃ i : Nat, x = i ∧ i < s.size) ∧ e = .returned (.int .i64 x) ∧ Below w.heap.size w w'
theorem indexAny_lt (chars : List UInt8) : ∀ l : List UInt8, Lib.indexAny l chars < l.length ∨ l = []
  | [] => .inr rfl
  | x :: l => by
    left
    have h := indexAny_lt chars l
    have h2 := Lib.indexAny_ge chars l
    simp only [Lib.indexAny, List.length_cons]
    split
    · omega
    · rcases h with h | h
      · split <;> omega
      · subst h; simp [Lib.indexAny]
theorem next_rune {w : World} {b : Nat} {s : ByteArray} {p : Nat} (h : w.heap[b]? = some (.stringIter s p)) (hp : p < s.size) :
    ∃ w' : World, ∃ q r : Nat, (∀ ty, (Instr.next (.pointer (some ⟨b, 0, none⟩)) true ty).run Tryz.prog w = .ok (.tuple #[.bool true, .int .i64 p, .int .i32 r]) w') ∧ p < q ∧ r ≤ 2147483647 ∧ w'.heap[b]? = some (.stringIter s q) ∧ (∀ B, B ≤ b → Below B w w') := by
  have hb : b < w.heap.size := blt_ h
  refine ⟨{ w with heap := w.heap.setIfInBounds b (.stringIter s (p + (Utf8.decode s p).2)) }, p + (Utf8.decode s p).2, (Utf8.decode s p).1, fun ty => ?_, ?_, decode_le s p, ?_, fun B hB => ⟨rfl, rfl, rfl, by simp, fun k hk => ?_⟩⟩
  · simp only [Instr.next, getObj, setObj, Sem.run_bind, Sem.run, h, Result.andThen, hp, if_true]
    simp [goInt]
  · by_cases ha : (s[p]'hp).toNat < 128
    · rw [decode_ascii s p hp ha]; omega
    · have := (decode_high s p hp (by omega)).2
      omega
  · simp [hb]
  · simp [show b ≠ k by omega]
theorem next_stop {w : World} {b : Nat} {s : ByteArray} {p : Nat} (h : w.heap[b]? = some (.stringIter s p)) (hp : ¬ p < s.size) (ty : TypeId) :
    (Instr.next (.pointer (some ⟨b, 0, none⟩)) true ty).run Tryz.prog w = .ok (.tuple #[.bool false]) w := by
  simp [Instr.next, getObj, Sem.run, h, hp]
set_option maxRecDepth 1000000 in
set_option maxHeartbeats 2000000 in
theorem indexAny_nl (s : ByteArray) (hs : s.size ≤ 20000) (w : World) :
    Calls Tryz.prog 168 #[.string s, .string nlq] w (SomePlace s w) := by
  by_cases h8 : 8 < s.size
  · refine (Tryz.strings_IndexAny_long (zero_of_info (n := 256) (by kernel_rfl)).1 s nlq w (by decide) h8 (by omega) (by decide) (by
      intro j b hj
      have h1 : nlq.data.toList = [34, 10] := rfl
      rw [h1] at hj
      rcases j with _ | _ | j <;> simp at hj <;> subst hj <;> decide)).mono ?_
    rintro e w' ⟨rfl, rfl⟩
    refine ⟨_, ?_, rfl, ?_⟩
    · have h1 := Lib.indexAny_ge nlq.data.toList s.data.toList
      have h2 := indexAny_lt nlq.data.toList s.data.toList
      rcases h2 with h2 | h2
      · rw [data_len] at h2
        by_cases h3 : Lib.indexAny s.data.toList nlq.data.toList = -1
        · exact .inl h3
        · exact .inr ⟨(Lib.indexAny s.data.toList nlq.data.toList).toNat, by omega, by omega⟩
      · rw [h2]; exact .inl rfl
    · exact ((Below.refl _ _).alloc (Nat.le_refl _) _).alloc (by simp) _
  · have hq : nlq.size = 2 := rfl
    have hemp : nlq.toList.isEmpty = false := by rw [Lib.toList_data]; rfl
    have hn1 : ((nlq.size : Int) == 1) = false := by decide
    have h8z : decide ((8 : Int) < (s.size : Int)) = false := decide_eq_false (by omega)
    go_enter Tryz.func168, Tryz.ntmps168
    go_wp2_with (first | (go_at_call 178; refine (Tryz.strings_shouldUseASCIISet _ _).mono ?_; rintro e w' ⟨rfl, hw⟩; rw [hw, h8z]))
    go_loopg [9, 10] s.size (fun g _ _ wx => ∃ i : Nat, s.size ≤ i + g ∧ Hid (wx.heap[w.heap.size]? = some (.stringIter s i)) ∧ Hid (Below w.heap.size w wx))
    case atStart => exact ⟨0, by omega, Lib.hid (World.iter_heap _ _ _), Lib.hid (iter_below _ _ _)⟩
    case round =>
      obtain ⟨i, hig, HI, HB⟩ := hrel
      by_cases hi : i < s.size
      · obtain ⟨w1, p, r, hnx, hp, hr, hit, hbb⟩ := next_rune HI.out hi
        obtain ⟨g, rfl⟩ : ∃ g, gk = g + 1 := ⟨gk - 1, by omega⟩
        have HB1 := Lib.hid (HB.out.trans (hbb _ (Nat.le_refl _)))
        have HI1 := Lib.hid hit
        have HP := Lib.hid hp
        clear hit hbb HI HB hp
        go_wp2_with fail
        refine (indexRune_nl r hr w1).mono ?_
        rintro e w2 ⟨x, hx, rfl, hb2⟩
        have HB2 := Lib.hid (bthen HB1.out hb2)
        have hlt := blt_ HI1.out
        have HI2 := Lib.hid (below_ hb2 HI1.out)
        clear hb2 HB1 HI1
        by_cases hx0 : 0 ≤ x
        · go_wp2_with fail
          go_ret
          exact ⟨i, .inr ⟨i, rfl, hi⟩, rfl, HB2.out⟩
        · go_wp2_with fail
          go_roundg g
          case measure => omega
          case rel => exact ⟨p, by have := HP.out; omega, HI2, HB2⟩
      · have hnx := next_stop HI.out hi
        have HI1 := HI
        go_wp2_with fail
        go_ret
        exact ⟨-1, .inl rfl, rfl, HB.out⟩
end Go.Proofs.YtfajbcjcigajfaaGreatDoor
namespace Go.Proofs.YtfajbcjcigajfaaGreatDoor
open Go.RowKit

def tokV (k a n : Int) (t : ByteArray) : Value := .agg #[.int .i64 k, .int .i64 a, .int .i64 n, .string t]
/-- What 'next' says of a token of kind k with text t that ends before en; er is the error. -/
def NextP (s : ByteArray) (i : Nat) (k : Int) (t : ByteArray) (en : Nat) (er : Int) : Prop :=
  (er = 0 → i < en ∧ en ≤ s.size) ∧
  (er = 0 → k = 1 → clsAt s i = 3 ∧ en - i ≤ 24 ∧ t = s.extract i en ∧ ∀ j, i ≤ j → j < en → [3, 4, 5].contains (clsAt s j) = true) ∧
  (clsAt s i = 3 → ∃ en', WhileP s [3, 4, 5] i en' ∧ (en' - i ≤ 24 → er = 0 ∧ k = 1 ∧ t = s.extract i en' ∧ en = en'))
def NextE (s : ByteArray) (i : Nat) (w : World) (e : Ending) (w' : World) : Prop :=
  ∃ (k a n : Int) (t : ByteArray) (en : Nat) (er : Int), e = .returned (.tuple #[tokV k a n t, .int .i64 en, .int .i64 er]) ∧ NextP s i k t en er ∧ Below w.heap.size w w'
theorem next_fail {s : ByteArray} {i : Nat} {er : Int} (h : clsAt s i ≠ 3) (he : er ≠ 0) : NextP s i 0 ⟨#[]⟩ 0 er := ⟨fun h => absurd h he, fun h => absurd h he, fun h2 => absurd h2 h⟩
theorem next_good {s : ByteArray} {i : Nat} {k : Int} {t : ByteArray} {en : Nat} (h : clsAt s i ≠ 3) (hk : k ≠ 1) (h1 : i < en) (h2 : en ≤ s.size) : NextP s i k t en 0 := ⟨fun _ => ⟨h1, h2⟩, fun _ h => absurd h hk, fun h2 => absurd h2 h⟩
theorem below4 {w w1 : World} (h : Below w.heap.size w w1) {b : Nat} (hb : w.heap.size ≤ b) (v0 v1 v2 v3 : Value) : Below w.heap.size w ((((w1.setCell ⟨b, 0, none⟩ v0).setCell ⟨b, 1, none⟩ v1).setCell ⟨b, 2, none⟩ v2).setCell ⟨b, 3, none⟩ v3) :=
  (((h.setCell hb v0).setCell hb v1).setCell hb v2).setCell hb v3
theorem clsArg3 (w : World) (a b c : Int) : ClsArg (w.alloc (.cells #[.int .i64 a, .int .i64 b, .int .i64 c] 3)) w.heap.size [a, b, c] := by
  intro j hj
  have hj : j < 3 := hj
  rcases (show j = 0 ∨ j = 1 ∨ j = 2 by omega) with rfl | rfl | rfl <;> simp [go_sem]
theorem clsArg1 (w : World) (a : Int) : ClsArg (w.alloc (.cells #[.int .i64 a] 3)) w.heap.size [a] := by
  intro j hj
  have hj : j < 1 := hj
  obtain rfl : j = 0 := by omega
  simp [go_sem]
def tokT : Obj := .cells #[.int .i64 0, .int .i64 0, .int .i64 0, .string ⟨#[]⟩] 156 (0, 0)
theorem next_word {s : ByteArray} {i en : Nat} (h : clsAt s i = 3) (hi : i < s.size) (hw : WhileP s [3, 4, 5] i en) (hl : en - i ≤ 24) : NextP s i 1 (s.extract i en) en 0 := by
  have hlt : i < en := by
    rcases Nat.lt_or_ge i en with h1 | h1
    · exact h1
    · obtain rfl : en = i := by have := hw.1; omega
      have := hw.2.2.2 hi
      rw [h] at this; simp at this
  exact ⟨fun _ => ⟨hlt, hw.2.1 (by omega)⟩, fun _ _ => ⟨h, hl, rfl, hw.2.2.1⟩, fun _ => ⟨en, hw, fun _ => ⟨rfl, rfl, rfl, rfl⟩⟩⟩
set_option maxRecDepth 100000 in
set_option maxHeartbeats 2000000 in
theorem next_name (s : ByteArray) (b i : Nat) (w : World) (hs : s.size ≤ 20000) (hi : i < s.size) (h : ScanAt w b s) (hc : clsAt s i = 3) :
    Calls Tryz.prog 148 #[.pointer (some ⟨b, 0, none⟩), .int .i64 i] w (NextE s i w) := by
  have HC := Lib.hid hc
  have t0 := h.text
  go_enter Tryz.func148, Tryz.ntmps148
  go_wp2_with fail
  have HB0 := Lib.hid ((Below.refl w.heap.size w).alloc (Nat.le_refl _) (.cells #[.int .i64 0, .int .i64 0, .int .i64 0, .string ⟨#[]⟩] 156))
  refine (at_any s b i _ (by omega) (h.below HB0.out)).mono ?_
  rintro e w1 ⟨rfl, n1, hw1⟩
  rw [hc]
  clear hc
  have HT := Lib.hid (show w1.heap[w.heap.size]? = some tokT from hw1 ▸ new_ w tokT)
  have HB1 := Lib.hid (show Below w.heap.size w w1 from hw1 ▸ (HB0.out.trans ⟨rfl, rfl, rfl, Nat.le_refl _, fun _ _ => rfl⟩))
  clear hw1 HB0
  go_wp2_with fail
  have HB2 := Lib.hid (HB1.out.alloc HB1.out.size (.cells #[.int .i64 3, .int .i64 4, .int .i64 5] 3))
  have HT2 := Lib.hid (old_ HT.out (o := .cells #[.int .i64 3, .int .i64 4, .int .i64 5] 3))
  refine (while_any s b i w1.heap.size [3, 4, 5] _ (by omega) (by omega) (by simp) (h.below HB2.out) (clsArg3 w1 3 4 5)).mono ?_
  rintro e w2 ⟨en, rfl, hw, hb⟩
  have HT3 := below_ hb HT2.out
  have HB3 := Lib.hid (bthen HB2.out hb)
  have t3 := (h.below HB3.out).text
  obtain ⟨s0, s1, s2, s3, s4⟩ := four_ HT3
  have hT := blt_ HT3
  have hh := h.lt
  have HW := Lib.hid hw
  have hin := hw.1
  have hen := hw.2.1 (by omega)
  clear HT HT2 HT3 HB1 HB2 hw hb
  by_cases hl : en - i ≤ 24
  · go_wp2_with fail
    refine bodyPost_ret (v := .tuple #[tokV 1 i 0 (s.extract i en), .int .i64 en, .int .i64 0]) (by simp [results, Tryz.results148, go_sem, s0, s1, s2, s3, tokV]) rfl ?_
    exact ⟨1, i, 0, _, en, 0, rfl, next_word HC.out hi HW.out hl, below4 HB3.out (Nat.le_refl _) _ _ _ _⟩
  · have hl2 : (24 : Int) < (en : Int) - (i : Int) := by omega
    go_wp2_with fail
    refine bodyPost_ret (v := .tuple #[tokV 0 0 0 ⟨#[]⟩, .int .i64 0, .int .i64 2]) (by simp [results, Tryz.results148, go_sem, s0, s1, s2, s3, tokV]) rfl ?_
    exact ⟨0, 0, 0, _, 0, 2, rfl, ⟨fun h => by simp at h, fun h => by simp at h, fun _ => ⟨en, HW.out, fun h => absurd h hl⟩⟩, below4 HB3.out (Nat.le_refl _) _ _ _ _⟩
end Go.Proofs.YtfajbcjcigajfaaGreatDoor
