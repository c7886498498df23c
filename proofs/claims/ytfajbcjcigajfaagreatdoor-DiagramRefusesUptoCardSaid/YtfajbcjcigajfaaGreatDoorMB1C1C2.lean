/- Part of the proof of a law of customhouselaw26: the texts B1 C1 C2. -/
import Derived.Deep.QuietTactic
import Derived.BigQuiet
import Derived.Test.YtfajbcjcigajfaaGreatDoorMA4
namespace Go.Proofs.YtfajbcjcigajfaaGreatDoor
open Go.RowKit

def letterB (c : Nat) : Bool := decide (97 ≤ c ∧ c ≤ 122 ∨ 65 ≤ c ∧ c ≤ 90)
def tailB (c : Nat) : Bool := decide (48 ≤ c ∧ c ≤ 57 ∨ c = 95)
def okcB (i : Nat) (c : Nat) : Bool := letterB c || (decide (0 < i) && tailB c)
def byteN (s : ByteArray) (i : Nat) : Nat := if h : i < s.size then (s[i]'h).toNat else 0
theorem byteN_at {s : ByteArray} {i : Nat} (h : i < s.size) : byteN s i = (s[i]'h).toNat := by simp [byteN, h]
/-- A name: of 1 to 24 bytes, a letter first, then letters, digits and underscores. -/
def nameB (s : ByteArray) : Bool := (List.range s.size).all (fun i => okcB i (byteN s i)) && decide (0 < s.size ∧ s.size ≤ 24)
theorem all_snoc {p : Nat → Bool} {k : Nat} (h : (List.range k).all p = true) (hp : p k = true) : (List.range (k + 1)).all p = true := by
  rw [List.range_succ, List.all_append, h]; simp [hp]
theorem all_no {p : Nat → Bool} {k n : Nat} (hk : k < n) (hp : p k = false) : (List.range n).all p = false := by
  rw [Bool.eq_false_iff]
  intro h
  have := List.all_eq_true.1 h k (List.mem_range.2 hk)
  rw [hp] at this; cases this
theorem data_len (s : ByteArray) : s.data.toList.length = s.size := by rw [Array.length_toList]; rfl
theorem nameB_no {s : ByteArray} {k c : Nat} (hk : k < s.size) (hb : byteN s k = c) (h : okcB k c = false) : nameB s = false := by
  unfold nameB
  rw [all_no hk (by rw [hb]; exact h)]
  rfl
theorem nameB_end {s : ByteArray} (h : (List.range s.size).all (fun i => okcB i (byteN s i)) = true) : nameB s = decide (0 < s.size ∧ s.size ≤ 24) := by unfold nameB; rw [h]; rfl
set_option maxRecDepth 100000 in
set_option maxHeartbeats 2000000 in
theorem isName_any (s : ByteArray) (w : World) (hs : s.size ≤ 140737488351232) :
    Calls Tryz.prog 48 #[.string s] w fun e w' => e = .returned (.bool (nameB s)) ∧ w = w' := by
  go_enter Tryz.func48, Tryz.ntmps48
  go_wp2
  go_loop [3, 4, 5, 6, 9] (fun _ _ _ _ i => ∃ k : Nat, k ≤ s.size ∧ i = .int .i64 k ∧ Hid ((List.range k).all (fun i => okcB i (byteN s i)) = true)) (fun _ _ _ _ i => s.size - (intOf i).toNat)
  case atStart => exact ⟨0, Nat.zero_le _, rfl, Lib.hid rfl⟩
  case round =>
    obtain ⟨k, hk, rfl, H⟩ := hrel
    by_cases hlt : k < s.size
    · obtain ⟨c, hcd⟩ : ∃ c : Nat, c = (s[k]'hlt).toNat := ⟨_, rfl⟩
      have hb := byteN_at hlt
      rw [← hcd] at hb
      have HB := Lib.hid hb
      have hidx : ∀ W, (Instr.index 9 (.string s) (.int .i64 (k : Int))).run Tryz.prog W = .ok (.int .u8 (c : Int)) W := by
        intro W; rw [hcd]; simp [go_sem, hlt]
      clear hb hcd
      have hc : ((c : Int) ≤ 47 ∧ ((c : Int) == 95) = false ∧ letterB c = false ∧ tailB c = false) ∨ ((48 : Int) ≤ c ∧ (c : Int) ≤ 57 ∧ ((c : Int) == 95) = false ∧ letterB c = false ∧ tailB c = true) ∨ ((58 : Int) ≤ c ∧ (c : Int) ≤ 64 ∧ ((c : Int) == 95) = false ∧ letterB c = false ∧ tailB c = false) ∨ ((65 : Int) ≤ c ∧ (c : Int) ≤ 90 ∧ ((c : Int) == 95) = false ∧ letterB c = true) ∨ ((91 : Int) ≤ c ∧ (c : Int) ≤ 96 ∧ ((c : Int) == 95) = false ∧ letterB c = false ∧ tailB c = false)
          ∨ ((91 : Int) ≤ c ∧ (c : Int) ≤ 96 ∧ ((c : Int) == 95) = true ∧ letterB c = false ∧ tailB c = true) ∨ ((97 : Int) ≤ c ∧ (c : Int) ≤ 122 ∧ ((c : Int) == 95) = false ∧ letterB c = true) ∨ ((123 : Int) ≤ c ∧ ((c : Int) == 95) = false ∧ letterB c = false ∧ tailB c = false) := by
        simp only [letterB, tailB, beq_iff_eq, beq_eq_false_iff_ne, decide_eq_true_eq, decide_eq_false_iff_not]
        omega
      have hz : ((k : Int) == 0) = true ∨ ((k : Int) == 0) = false := by cases ((k : Int) == 0) <;> simp
      have hok : Hid (okcB k c = (letterB c || (!((k : Int) == 0) && tailB c))) := Lib.hid (by
        unfold okcB; congr 2; rw [Bool.eq_iff_iff]; simp; omega)
      rcases hz with hz | hz <;> rcases hc with ⟨hc, h95, h1, h2⟩ | ⟨hc, hc2, h95, h1, h2⟩ | ⟨hc, hc2, h95, h1, h2⟩ | ⟨hc, hc2, h95, h1⟩ | ⟨hc, hc2, h95, h1, h2⟩ | ⟨hc, hc2, h95, h1, h2⟩ | ⟨hc, hc2, h95, h1⟩ | ⟨hc, h95, h1, h2⟩
      all_goals
        go_wp2_with fail
        all_goals first
          | (rename_i hx; exfalso; clear H HB hok hidx; simp at hx; omega)
          | (go_ret; exact ⟨by rw [nameB_no hlt HB.out (by rw [hok.out, hz, h1]; simp [h2])]; rfl, rfl⟩)
          | (go_ret; exact ⟨by rw [nameB_no hlt HB.out (by rw [hok.out, hz, h1]; rfl)]; rfl, rfl⟩)
          | (go_round
             case rel => exact ⟨k + 1, by omega, by go_num, Lib.hid (all_snoc H.out (by rw [HB.out, hok.out, hz, h1]; first | rfl | (rw [h2]; rfl)))⟩
             case measure => simp [intOf]; omega)
    · obtain rfl : k = s.size := by omega
      have HE := Lib.hid (nameB_end H.out)
      by_cases h0 : s.toList = []
      · have h0' : (s.toList.isEmpty) = true := by simp [h0]
        go_wp2_with fail
        go_ret
        have hs0 : s.size = 0 := by rw [ByteArray.toList_eq] at h0; rw [← data_len, h0]; rfl
        exact ⟨by rw [HE.out, show decide (0 < s.size ∧ s.size ≤ 24) = false from decide_eq_false (by omega)]; rfl, rfl⟩
      · have h0' : (s.toList.isEmpty) = false := by simpa using h0
        have hs0 : 0 < s.size := by
          rw [ByteArray.toList_eq] at h0
          rcases Nat.eq_zero_or_pos s.size with h | h
          · exact absurd (List.eq_nil_of_length_eq_zero ((data_len s).trans h)) h0
          · exact h
        go_wp2_with fail
        go_ret
        exact ⟨by rw [HE.out, show decide (0 < s.size ∧ s.size ≤ 24) = decide ((s.size : Int) ≤ 24) from by rw [decide_eq_decide]; omega]; rfl, rfl⟩
end Go.Proofs.YtfajbcjcigajfaaGreatDoor
namespace Go.Proofs.YtfajbcjcigajfaaGreatDoor
open Go.RowKit

/-- The class of a byte. -/
def clsI (c : Nat) : Int := if letterB c then 3 else if 48 ≤ c ∧ c ≤ 57 then 4 else if c = 95 then 5 else if c = 32 ∨ c = 9 ∨ c = 10 then 1 else if c = 35 then 2 else if c = 34 then 6 else if c = 33 then 7 else if c = 60 ∨ c = 62 then 8 else
  if c = 59 ∨ c = 44 ∨ c = 46 ∨ c = 58 ∨ c = 40 ∨ c = 41 ∨ c = 91 ∨ c = 93 ∨ c = 123 ∨ c = 125 ∨ c = 61 ∨ c = 43 ∨ c = 45 then 9 else 0
def clsL : List Int := (List.range 256).map clsI
def rowI (l : List Int) : Array Value := (l.map (Value.int .i64)).toArray
def putN (s : ByteArray) (c : Int) : Nat → List Int → List Int
  | 0, l => l
  | k + 1, l => (putN s c k l).set (byteN s k) c
theorem putN_len (s : ByteArray) (c : Int) (l : List Int) : ∀ k, (putN s c k l).length = l.length
  | 0 => rfl
  | k + 1 => by rw [putN, List.length_set, putN_len s c l k]
theorem byteN_lt (s : ByteArray) (k : Nat) : byteN s k < 256 := by
  unfold byteN
  split
  · exact UInt8.toNat_lt _
  · omega
theorem byte_idx {s : ByteArray} {k : Nat} (h : k < s.size) (W : World) : (Instr.index 9 (.string s) (.int .i64 (k : Int))).run Tryz.prog W = .ok (.int .u8 (byteN s k : Int)) W := by
  rw [byteN_at h]; simp [go_sem, h]
set_option maxHeartbeats 1000000 in
theorem set_any (s : ByteArray) (c : Int) (l : List Int) (B : Nat) (w : World) (hs : s.size ≤ 140737488351232) (hl : l.length = 256) (hB : w.heap[B]? = some (.cells (rowI l) 176 (0, 0))) :
    Calls Tryz.prog 163 #[.string s, .int .i64 c, .pointer (some ⟨B, 0, none⟩)] w fun e w' => e = .returned (.tuple #[]) ∧ w'.heap[B]? = some (.cells (rowI (putN s c s.size l)) 176 (0, 0)) ∧ Chg (fun i => i = B) w w' := by
  go_enter Tryz.func163, Tryz.ntmps163
  go_wp2_with fail
  go_loopw [5] (fun i wr => ∃ k : Nat, k ≤ s.size ∧ i = .int .i64 k ∧ Hid (wr.heap[B]? = some (.cells (rowI (putN s c k l)) 176 (0, 0))) ∧ Hid (Chg (fun i => i = B) w wr)) (fun i _ => s.size - (intOf i).toNat)
  case atStart => exact ⟨0, Nat.zero_le _, rfl, Lib.hid hB, Lib.hid (Chg.refl _ _)⟩
  case round =>
    obtain ⟨k, hk, rfl, HR, HC⟩ := hrel
    by_cases hlt : k < s.size
    · have hidx := byte_idx hlt
      have hb := byteN_lt s k
      obtain ⟨x, hx⟩ : ∃ x, x = byteN s k := ⟨_, rfl⟩
      rw [← hx] at hidx hb
      have hbi : (x : Int) < 256 := by omega
      have hcell : wr.cell? ⟨B, x, none⟩ = some (.int .i64 ((putN s c k l)[x]'(by rw [putN_len, hl]; exact hb))) := by
        rw [cell_of_row wr B x _ _ _ HR.out]; simp [rowI, putN_len, hl, hb]
      have hfr : wr.frozen? ⟨B, x, none⟩ = false := frozen_of_row wr B x _ _ HR.out
      have hset : (wr.setCell ⟨B, x, none⟩ (.int .i64 c)).heap[B]? = some (.cells (rowI (putN s c (k + 1) l)) 176 (0, 0)) := by
        rw [heap_setCell_same wr B x _ _ _ HR.out, putN, ← hx]
        simp [rowI, List.map_set]
      have R1 := Lib.hid hset
      have R2 := Lib.hid (HC.out.setCell (p := ⟨B, x, none⟩) (fun _ => rfl) (.int .i64 c))
      clear hset hx
      go_wp2_with fail
      go_roundw
      case rel => exact ⟨k + 1, by omega, by go_num, R1, R2⟩
      case measure => simp [intOf]; omega
    · obtain rfl : k = s.size := by omega
      go_wp2_with fail
      go_end0
      exact ⟨rfl, HR.out, HC.out⟩
def cs1 : ByteArray := ⟨#[97, 98, 99, 100, 101, 102, 103, 104, 105, 106, 107, 108, 109, 110, 111, 112, 113, 114, 115, 116, 117, 118, 119, 120, 121, 122, 65, 66, 67, 68, 69, 70, 71, 72, 73, 74, 75, 76, 77, 78, 79, 80, 81, 82, 83, 84, 85, 86, 87, 88, 89, 90]⟩
def cs2 : ByteArray := ⟨#[48, 49, 50, 51, 52, 53, 54, 55, 56, 57]⟩
def cs3 : ByteArray := ⟨#[95]⟩
def cs4 : ByteArray := ⟨#[32, 9, 10]⟩
def cs5 : ByteArray := ⟨#[35]⟩
def cs6 : ByteArray := ⟨#[34]⟩
def cs7 : ByteArray := ⟨#[33]⟩
def cs8 : ByteArray := ⟨#[60, 62]⟩
def cs9 : ByteArray := ⟨#[59, 44, 46, 58, 40, 41, 91, 93, 123, 125, 61, 43, 45]⟩
def pa (s : ByteArray) (c : Int) (l : List Int) : List Int := putN s c s.size l
def clsStep : List Int := pa cs9 9 (pa cs8 8 (pa cs7 7 (pa cs6 6 (pa cs5 2 (pa cs4 1 (pa cs3 5 (pa cs2 4 (pa cs1 3 (List.replicate 256 0)))))))))
theorem clsStep_eq : clsStep = clsL := by decide +kernel
theorem zero176 : Tryz.zeroCells176 = rowI (List.replicate 256 0) := by kernel_rfl
theorem pa_len (s : ByteArray) (c : Int) {l : List Int} (h : l.length = 256) : (pa s c l).length = 256 := (putN_len s c l s.size).trans h
theorem set_pa (s : ByteArray) (c : Int) (l : List Int) (B : Nat) (w : World) (hs : s.size ≤ 140737488351232) (hl : l.length = 256) (hB : w.heap[B]? = some (.cells (rowI l) 176 (0, 0))) :
    Calls Tryz.prog 163 #[.string s, .int .i64 c, .pointer (some ⟨B, 0, none⟩)] w fun e w' => e = .returned (.tuple #[]) ∧ w'.heap[B]? = some (.cells (rowI (pa s c l)) 176 (0, 0)) ∧ Chg (fun i => i = B) w w' := set_any s c l B w hs hl hB
theorem info176 : (Tryz.prog.info? 176).map (·.size) = some 256 := by kernel_rfl
theorem rowI_size (l : List Int) : (rowI l).size = l.length := by simp [rowI]
theorem rowI_one (l : List Int) : (rowI l).all (·.oneCell') = true := by simp [rowI, Value.oneCell']
set_option maxRecDepth 100000 in
set_option maxHeartbeats 1000000 in
theorem classes_any (w : World) :
    Calls Tryz.prog 146 #[] w fun e w' => e = .returned (.agg (rowI clsL)) ∧ Below w.heap.size w w' := by
  go_enter Tryz.func146, Tryz.ntmps146
  go_wp2_with fail
  refine (set_pa cs1 3 (List.replicate 256 0) _ _ (by decide) (by simp) (by rw [← zero176]; simpa using new_ (w.alloc (.cells Tryz.zeroCells176 176)) (.cells Tryz.zeroCells176 176))).mono ?_
  rintro e w1 ⟨rfl, h1, c1⟩
  go_wp2_with fail
  refine (set_pa cs2 4 _ _ _ (by decide) ?_ h1).mono ?_
  · exact (pa_len _ _ (by simp))
  rintro e w2 ⟨rfl, h2, d2⟩
  have c2 := c1.trans d2 (fun _ _ h => h)
  clear c1 h1 d2
  go_wp2_with fail
  refine (set_pa cs3 5 _ _ _ (by decide) ?_ h2).mono ?_
  · exact (pa_len _ _ (pa_len _ _ (by simp)))
  rintro e w3 ⟨rfl, h3, d3⟩
  have c3 := c2.trans d3 (fun _ _ h => h)
  clear c2 h2 d3
  go_wp2_with fail
  refine (set_pa cs4 1 _ _ _ (by decide) ?_ h3).mono ?_
  · exact (pa_len _ _ (pa_len _ _ (pa_len _ _ (by simp))))
  rintro e w4 ⟨rfl, h4, d4⟩
  have c4 := c3.trans d4 (fun _ _ h => h)
  clear c3 h3 d4
  go_wp2_with fail
  refine (set_pa cs5 2 _ _ _ (by decide) ?_ h4).mono ?_
  · exact (pa_len _ _ (pa_len _ _ (pa_len _ _ (pa_len _ _ (by simp)))))
  rintro e w5 ⟨rfl, h5, d5⟩
  have c5 := c4.trans d5 (fun _ _ h => h)
  clear c4 h4 d5
  go_wp2_with fail
  refine (set_pa cs6 6 _ _ _ (by decide) ?_ h5).mono ?_
  · exact (pa_len _ _ (pa_len _ _ (pa_len _ _ (pa_len _ _ (pa_len _ _ (by simp))))))
  rintro e w6 ⟨rfl, h6, d6⟩
  have c6 := c5.trans d6 (fun _ _ h => h)
  clear c5 h5 d6
  go_wp2_with fail
  refine (set_pa cs7 7 _ _ _ (by decide) ?_ h6).mono ?_
  · exact (pa_len _ _ (pa_len _ _ (pa_len _ _ (pa_len _ _ (pa_len _ _ (pa_len _ _ (by simp)))))))
  rintro e w7 ⟨rfl, h7, d7⟩
  have c7 := c6.trans d7 (fun _ _ h => h)
  clear c6 h6 d7
  go_wp2_with fail
  refine (set_pa cs8 8 _ _ _ (by decide) ?_ h7).mono ?_
  · exact (pa_len _ _ (pa_len _ _ (pa_len _ _ (pa_len _ _ (pa_len _ _ (pa_len _ _ (pa_len _ _ (by simp))))))))
  rintro e w8 ⟨rfl, h8, d8⟩
  have c8 := c7.trans d8 (fun _ _ h => h)
  clear c7 h7 d8
  go_wp2_with fail
  refine (set_pa cs9 9 _ _ _ (by decide) ?_ h8).mono ?_
  · exact (pa_len _ _ (pa_len _ _ (pa_len _ _ (pa_len _ _ (pa_len _ _ (pa_len _ _ (pa_len _ _ (pa_len _ _ (by simp)))))))))
  rintro e w9 ⟨rfl, h9, d9⟩
  have c9 := c8.trans d9 (fun _ _ h => h)
  clear c8 h8 d9
  have H9 := Lib.hid (show w9.heap[w.heap.size + 1]? = some (.cells (rowI clsL) 176 (0, 0)) by rw [← clsStep_eq]; exact h9)
  have C9 := Lib.hid c9
  have r0 : w9.heap[w.heap.size]? = some (.cells Tryz.zeroCells176 176 (0, 0)) := (c9.block w.heap.size (by simp; omega) (by simp)).trans (heap_alloc2_old w _ _)
  rw [zero176] at r0
  have R0 := Lib.hid r0
  clear h9 c9 r0
  go_wp2_with (first
    | (refine wpList_load_row rfl 176 (.tmp 1) rfl (w.heap.size + 1) rfl 176 (rowI clsL) (0, 0) _ H9.out Tryz.underlying176 rfl (by rw [rowI_size]; exact info176) ?_)
    | (refine wpList_store_row rfl 176 (.tmp 0) (.tmp 22) rfl w.heap.size (rowI clsL) rfl rfl 176 _ R0.out (by rw [rowI_size]; exact info176) (by rw [rowI_size, rowI_size]; rfl) (rowI_one _) ?_))
  refine bodyPost_ret (v := .agg (rowI clsL)) (results_cell_row rfl _ _ w.heap.size 176 (rowI clsL) (0, 0) _ rfl (setRow_heap _ _ _ _ _ _ R0.out) Tryz.underlying176 rfl (by rw [rowI_size]; exact info176)) rfl ⟨rfl, ?_⟩
  have hb : Below w.heap.size w w9 := Chg.below (T := fun i => w.heap.size ≤ i) (Chg.trans (T2 := fun i => i = w.heap.size + 1) (Chg.alloc (Chg.alloc (Chg.refl _ _) _) _) C9.out (fun i _ h => by omega)) (fun i hi h => by omega)
  exact hb.trans ⟨rfl, rfl, rfl, by simp, fun k hk => setRow_other _ _ _ _ (by omega)⟩
attribute [irreducible] clsL
end Go.Proofs.YtfajbcjcigajfaaGreatDoor
namespace Go.Proofs.YtfajbcjcigajfaaGreatDoor
open Go.RowKit

def scanA (s : ByteArray) : Array Value := (.string s :: clsL.map (Value.int .i64)).toArray
/-- A scanner over s lies in block b. -/
def ScanAt (w : World) (b : Nat) (s : ByteArray) : Prop := w.heap[b]? = some (.cells (scanA s) 179 (0, 0))
theorem ScanAt.text {w : World} {b : Nat} {s : ByteArray} (h : ScanAt w b s) : w.cell? ⟨b, 0, none⟩ = some (.string s) := by
  rw [cell_of_row w b 0 _ _ _ h]; simp [scanA]
theorem ScanAt.cls {w : World} {b : Nat} {s : ByteArray} (h : ScanAt w b s) {x : Nat} (hx : x < 256) : w.cell? ⟨b, 1 + x, none⟩ = some (.int .i64 (clsI x)) := by
  rw [cell_of_row w b (1 + x) _ _ _ h]
  simp [scanA, clsL, Nat.add_comm 1 x, hx]
theorem ScanAt.below {w w' : World} {b : Nat} {s : ByteArray} (h : ScanAt w b s) (hb : Below w.heap.size w w') : ScanAt w' b s := below_ hb h
theorem ScanAt.lt {w : World} {b : Nat} {s : ByteArray} (h : ScanAt w b s) : b < w.heap.size := blt_ h
attribute [irreducible] ScanAt scanA
/-- The class at an offset. -/
def clsAt (s : ByteArray) (i : Nat) : Int := if i < s.size then clsI (byteN s i) else 0
theorem drewN_below (w : World) (n : Nat) : Below w.heap.size w (w.drewN n) := ⟨rfl, rfl, rfl, Nat.le_refl _, fun _ _ => rfl⟩

set_option maxRecDepth 100000 in
set_option maxHeartbeats 400000 in
theorem at_any (s : ByteArray) (b i : Nat) (w : World) (_hs : s.size ≤ 140737488351232) (h : ScanAt w b s) :
    Calls Tryz.prog 165 #[.pointer (some ⟨b, 0, none⟩), .int .i64 i] w fun e w' => e = .returned (.int .i64 (clsAt s i)) ∧ ∃ n, w' = w.drewN n := by
  have h0 := h.text
  by_cases hlt : i < s.size
  · have hidx := byte_idx hlt
    have hb := byteN_lt s i
    have hc := h.cls hb
    have hv := Lib.hid (show clsAt s i = clsI (byteN s i) by simp [clsAt, hlt])
    generalize byteN s i = x at *
    have hx : (x : Int) < 256 := by omega
    have hx0 : (0 : Int) ≤ x := by omega
    go_enter Tryz.func165, Tryz.ntmps165
    go_wp2_with fail
    go_quiet (fail)
    go_wp2_with fail
    go_ret
    exact ⟨by rw [hv.out]; rfl, _, rfl⟩
  · have hv := Lib.hid (show clsAt s i = 0 by simp [clsAt, hlt])
    go_enter Tryz.func165, Tryz.ntmps165
    go_wp2_with fail
    go_ret
    exact ⟨by rw [hv.out]; rfl, 0, rfl⟩
end Go.Proofs.YtfajbcjcigajfaaGreatDoor
