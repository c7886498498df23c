/- Part of the proof of a law of customhouselaw26: the texts C8 C9 C10. -/
import Derived.Lib.AtoiBound
import Derived.Test.YtfajbcjcigajfaaGreatDoorMC3C4C5C6C7
namespace Go.Proofs.YtfajbcjcigajfaaGreatDoor
open Go.RowKit

theorem bytes_below' (w : World) (e : TypeId) (s : ByteArray) : Below w.heap.size w (Lib.bytesWorld w e s) :=
  ⟨rfl, rfl, rfl, by rw [Lib.bytesWorld_size]; omega, fun k hk => Lib.bytesWorld_at_old w e s k hk⟩
theorem dec_all : ∀ (l : List UInt8) (acc : Nat), (∀ b ∈ l, 48 ≤ b.toNat ∧ b.toNat ≤ 57) → ∃ n, Lib.decFrom acc l = some n
  | [], acc, _ => ⟨acc, rfl⟩
  | b :: l, acc, h => by
    have hb := h b (by simp)
    simp only [Lib.decFrom, Lib.digitVal, if_pos hb]
    exact dec_all l _ fun c hc => h c (by simp [hc])
theorem atoi_all {l : List UInt8} (hl : l ≠ []) (h : ∀ b ∈ l, 48 ≤ b.toNat ∧ b.toNat ≤ 57) : ∃ n, Lib.atoi l = some n := by
  match l, hl with
  | b :: r, _ =>
    have hb := h b (by simp)
    have h1 : (b == 45) = false := by rw [beq_eq_false_iff_ne]; rintro rfl; simp at hb
    have h2 : (b == 43) = false := by rw [beq_eq_false_iff_ne]; rintro rfl; simp at hb
    obtain ⟨n, hn⟩ := dec_all (b :: r) 0 h
    refine ⟨n, ?_⟩
    simp [Lib.atoi, h1, h2, Lib.decNat, hn]
theorem digit_byte {s : ByteArray} {k : Nat} (h : [4].contains (clsAt s k) = true) : k < s.size ∧ 48 ≤ byteN s k ∧ byteN s k ≤ 57 := by
  have h1 : clsAt s k = 4 := by simpa using h
  by_cases hk : k < s.size
  · refine ⟨hk, ?_⟩
    simp only [clsAt, if_pos hk, clsI] at h1
    by_cases h2 : letterB (byteN s k) = true
    · simp [h2] at h1
    · simp only [h2] at h1
      by_cases h3 : 48 ≤ byteN s k ∧ byteN s k ≤ 57
      · exact h3
      · simp only [h3, if_false] at h1
        repeat' split at h1
        all_goals omega
  · simp [clsAt, hk] at h1
theorem atoi_any (s : ByteArray) (i en : Nat) (hi : i < en) (hen : en ≤ s.size) (hl : en - i ≤ 13) (h : ∀ k, i ≤ k → k < en → [4].contains (clsAt s k) = true) (w : World) :
    Calls Tryz.prog 167 #[.string (s.extract i en)] w fun e w' => ∃ n : Int, I64 n ∧ e = .returned (.tuple #[.int .i64 n, .nilIface]) ∧ Below w.heap.size w w' := by
  have hsz : (s.extract i en).size = en - i := by simp [ByteArray.size_extract]; omega
  have hall : ∀ b ∈ (s.extract i en).data.toList, 48 ≤ b.toNat ∧ b.toNat ≤ 57 := by
    intro b hb
    obtain ⟨j, hj, rfl⟩ := List.getElem_of_mem hb
    have hj2 : j < en - i := by rw [← hsz, ← data_len]; exact hj
    obtain ⟨h1, h2, h3⟩ := digit_byte (h (i + j) (by omega) (by omega))
    have : (s.extract i en).data.toList[j] = s[i + j]'h1 := by
      simp [ByteArray.data_extract, ByteArray.getElem_eq_getElem_data]
    rw [this, ← byteN_at h1]
    exact ⟨h2, h3⟩
  have hne : (s.extract i en).data.toList ≠ [] := by
    intro h0
    have := data_len (s.extract i en)
    rw [h0, hsz] at this; simp at this; omega
  obtain ⟨n, hn⟩ := atoi_all hne hall
  have hb := Lib.atoi_bound hn (by rw [data_len, hsz]; omega)
  refine (Tryz.strconv_Atoi _ n (by rw [hsz]; omega) hn w).mono ?_
  rintro e w' ⟨rfl, t, rfl⟩
  exact ⟨n, by simp only [I64]; omega, rfl, bytes_below' _ _ _⟩
set_option maxRecDepth 100000 in
set_option maxHeartbeats 2000000 in
theorem next_digit (s : ByteArray) (b i : Nat) (w : World) (hs : s.size ≤ 20000) (hi : i < s.size) (h : ScanAt w b s) (hc : clsAt s i = 4) :
    Calls Tryz.prog 148 #[.pointer (some ⟨b, 0, none⟩), .int .i64 i] w (NextE s i w) := by
  have HC := Lib.hid hc
  have t0 := h.text
  go_enter Tryz.func148, Tryz.ntmps148
  go_wp2_with fail
  have HB0 := Lib.hid ((Below.refl w.heap.size w).alloc (Nat.le_refl _) (.cells #[.int .i64 0, .int .i64 0, .int .i64 0, .string ⟨#[]⟩] 156))
  refine (at_any s b i _ (by omega) (h.below HB0.out)).mono ?_
  rintro e w1 ⟨rfl, n1, hw1⟩
  rw [hc]
  clear hc
  have HT := Lib.hid (show w1.heap[w.heap.size]? = some tokT from hw1 ▸ new_ w tokT)
  have HB1 := Lib.hid (show Below w.heap.size w w1 from hw1 ▸ (HB0.out.trans ⟨rfl, rfl, rfl, Nat.le_refl _, fun _ _ => rfl⟩))
  clear hw1 HB0
  go_wp2_with fail
  have HB2 := Lib.hid (HB1.out.alloc HB1.out.size (.cells #[.int .i64 4] 3))
  have HT2 := Lib.hid (old_ HT.out (o := .cells #[.int .i64 4] 3))
  refine (while_any s b i w1.heap.size [4] _ (by omega) (by omega) (by simp) (h.below HB2.out) (clsArg1 w1 4)).mono ?_
  rintro e w2 ⟨en, rfl, hw, hb⟩
  have HT3 := Lib.hid (below_ hb HT2.out)
  have HB3 := Lib.hid (bthen HB2.out hb)
  have HW := Lib.hid hw
  have hlt : i < en := by
    rcases Nat.lt_or_ge i en with h1 | h1
    · exact h1
    · obtain rfl : en = i := by have := hw.1; omega
      have := hw.2.2.2 hi
      rw [HC.out] at this; simp at this
  have hen := hw.2.1 (by omega)
  clear HT HT2 HB1 HB2 hw hb
  go_wp2_with fail
  refine (at_any s b en _ (by omega) (h.below HB3.out)).mono ?_
  rintro e w3 ⟨rfl, n3, hw3⟩
  have hd : Below w2.heap.size w2 w3 := hw3 ▸ ⟨rfl, rfl, rfl, Nat.le_refl _, fun _ _ => rfl⟩
  have HT4 := Lib.hid (below_ hd HT3.out)
  have HB4 := Lib.hid (bthen HB3.out hd)
  clear hw3 hd HT3 HB3
  by_cases hl : en - i ≤ 13
  · have hl2 : decide ((13 : Int) < (en : Int) - (i : Int)) = false := by simp; omega
    by_cases hbad : clsAt s en = 3 ∨ clsAt s en = 5
    · have t3 := (h.below HB4.out).text
      obtain ⟨s0, s1, s2, s3, s4⟩ := four_ HT4.out
      have hT := blt_ HT4.out
      have hh := h.lt
      rcases hbad with hbad | hbad
      · rw [hbad]
        go_wp2_with fail
        refine bodyPost_ret (v := .tuple #[tokV 0 0 0 ⟨#[]⟩, .int .i64 0, .int .i64 4]) (by simp [results, Tryz.results148, go_sem, s0, s1, s2, s3, tokV]) rfl ?_
        exact ⟨0, 0, 0, _, 0, 4, rfl, next_fail (by rw [HC.out]; decide) (by decide), below4 HB4.out (Nat.le_refl _) _ _ _ _⟩
      · rw [hbad]
        go_wp2_with fail
        refine bodyPost_ret (v := .tuple #[tokV 0 0 0 ⟨#[]⟩, .int .i64 0, .int .i64 4]) (by simp [results, Tryz.results148, go_sem, s0, s1, s2, s3, tokV]) rfl ?_
        exact ⟨0, 0, 0, _, 0, 4, rfl, next_fail (by rw [HC.out]; decide) (by decide), below4 HB4.out (Nat.le_refl _) _ _ _ _⟩
    · have hb3 : (clsAt s en == 3) = false := by simp; omega
      have hb5 : (clsAt s en == 5) = false := by simp; omega
      have t3 := (h.below HB4.out).text
      clear hbad
      go_wp2_with fail
      refine (atoi_any s i en hlt hen hl HW.out.2.2.1 w3).mono ?_
      rintro e w4 ⟨n, hn, rfl, hb⟩
      have HT5 := Lib.hid (below_ hb HT4.out)
      have HB5 := Lib.hid (bthen HB4.out hb)
      clear HT4 HB4 t3 hb
      have t3 := (h.below HB5.out).text
      obtain ⟨s0, s1, s2, s3, s4⟩ := four_ HT5.out
      have hT := blt_ HT5.out
      have hh := h.lt
      go_wp2_with fail
      refine bodyPost_ret (v := .tuple #[tokV 2 i n (s.extract i en), .int .i64 en, .int .i64 0]) (by simp [results, Tryz.results148, go_sem, s0, s1, s2, s3, tokV]) rfl ?_
      exact ⟨2, i, n, _, en, 0, rfl, next_good (by rw [HC.out]; decide) (by decide) hlt hen, below4 HB5.out (Nat.le_refl _) _ _ _ _⟩
  · have hl2 : (13 : Int) < (en : Int) - (i : Int) := by omega
    have t3 := (h.below HB4.out).text
    obtain ⟨s0, s1, s2, s3, s4⟩ := four_ HT4.out
    have hT := blt_ HT4.out
    have hh := h.lt
    go_wp2_with fail
    refine bodyPost_ret (v := .tuple #[tokV 0 0 0 ⟨#[]⟩, .int .i64 0, .int .i64 4]) (by simp [results, Tryz.results148, go_sem, s0, s1, s2, s3, tokV]) rfl ?_
    exact ⟨0, 0, 0, _, 0, 4, rfl, next_fail (by rw [HC.out]; decide) (by decide), below4 HB4.out (Nat.le_refl _) _ _ _ _⟩
end Go.Proofs.YtfajbcjcigajfaaGreatDoor
namespace Go.Proofs.YtfajbcjcigajfaaGreatDoor
open Go.RowKit

set_option maxRecDepth 100000 in
set_option maxHeartbeats 2000000 in
theorem next_other (s : ByteArray) (b i : Nat) (w : World) (hs : s.size ≤ 20000) (_hi : i < s.size) (h : ScanAt w b s) (hc : clsAt s i ≠ 3 ∧ clsAt s i ≠ 4 ∧ clsAt s i ≠ 6 ∧ clsAt s i ≠ 7 ∧ clsAt s i ≠ 8 ∧ clsAt s i ≠ 9) :
    Calls Tryz.prog 148 #[.pointer (some ⟨b, 0, none⟩), .int .i64 i] w (NextE s i w) := by
  have HN := Lib.hid (fun er he => next_fail (er := er) hc.1 he)
  have t0 := h.text
  go_enter Tryz.func148, Tryz.ntmps148
  go_wp2_with fail
  have HB0 := Lib.hid ((Below.refl w.heap.size w).alloc (Nat.le_refl _) (.cells #[.int .i64 0, .int .i64 0, .int .i64 0, .string ⟨#[]⟩] 156))
  refine (at_any s b i _ (by omega) (h.below HB0.out)).mono ?_
  rintro e w1 ⟨rfl, n1, hw1⟩
  generalize clsAt s i = c at hc
  have c3 : (c == 3) = false := by simp [hc]
  have c4 : (c == 4) = false := by simp [hc]
  have c6 : (c == 6) = false := by simp [hc]
  have c7 : (c == 7) = false := by simp [hc]
  have c8 : (c == 8) = false := by simp [hc]
  have c9 : (c == 9) = false := by simp [hc]
  clear hc
  have HT := Lib.hid (show w1.heap[w.heap.size]? = some tokT from hw1 ▸ new_ w tokT)
  have HB1 := Lib.hid (show Below w.heap.size w w1 from hw1 ▸ (HB0.out.trans ⟨rfl, rfl, rfl, Nat.le_refl _, fun _ _ => rfl⟩))
  clear hw1 HB0
  have t3 := (h.below HB1.out).text
  obtain ⟨s0, s1, s2, s3, s4⟩ := four_ HT.out
  have hT := blt_ HT.out
  have hh := h.lt
  go_wp2_with fail
  refine bodyPost_ret (v := .tuple #[tokV 0 0 0 ⟨#[]⟩, .int .i64 0, .int .i64 3]) (by simp [results, Tryz.results148, go_sem, s0, s1, s2, s3, tokV]) rfl ?_
  exact ⟨0, 0, 0, _, 0, 3, rfl, HN.out 3 (by decide), below4 HB1.out (Nat.le_refl _) _ _ _ _⟩
set_option maxRecDepth 100000 in
set_option maxHeartbeats 2000000 in
theorem next_symbol (s : ByteArray) (b i : Nat) (w : World) (hs : s.size ≤ 20000) (hi : i < s.size) (h : ScanAt w b s) (hc : clsAt s i = 9) :
    Calls Tryz.prog 148 #[.pointer (some ⟨b, 0, none⟩), .int .i64 i] w (NextE s i w) := by
  have HC := Lib.hid hc
  have t0 := h.text
  go_enter Tryz.func148, Tryz.ntmps148
  go_wp2_with fail
  have HB0 := Lib.hid ((Below.refl w.heap.size w).alloc (Nat.le_refl _) (.cells #[.int .i64 0, .int .i64 0, .int .i64 0, .string ⟨#[]⟩] 156))
  refine (at_any s b i _ (by omega) (h.below HB0.out)).mono ?_
  rintro e w1 ⟨rfl, n1, hw1⟩
  rw [hc]
  clear hc
  have HT := Lib.hid (show w1.heap[w.heap.size]? = some tokT from hw1 ▸ new_ w tokT)
  have HB1 := Lib.hid (show Below w.heap.size w w1 from hw1 ▸ (HB0.out.trans ⟨rfl, rfl, rfl, Nat.le_refl _, fun _ _ => rfl⟩))
  clear hw1 HB0
  have t3 := (h.below HB1.out).text
  obtain ⟨s0, s1, s2, s3, s4⟩ := four_ HT.out
  have hT := blt_ HT.out
  have hh := h.lt
  go_wp2_with fail
  refine bodyPost_ret (v := .tuple #[tokV 4 i 0 (s.extract i (i + 1)), .int .i64 ((i + 1 : Nat)), .int .i64 0]) (by simp [results, Tryz.results148, go_sem, s0, s1, s2, s3, tokV]) rfl ?_
  exact ⟨4, i, 0, _, (i + 1), 0, rfl, next_good (by rw [HC.out]; decide) (by decide) (by omega) (by omega), below4 HB1.out (Nat.le_refl _) _ _ _ _⟩
theorem hasPrefix_eq (s : ByteArray) (i : Nat) (hi : i < s.size) (h : Lib.hasPrefix (s.extract (i + 1) s.size).data.toList [61] = true) : i + 2 ≤ s.size := by
  have h1 := data_len (s.extract (i + 1) s.size)
  rw [ByteArray.size_extract] at h1
  have h2 : 0 < (s.extract (i + 1) s.size).data.toList.length := by
    cases h3 : (s.extract (i + 1) s.size).data.toList with
    | nil => rw [h3] at h; simp [Lib.hasPrefix] at h
    | cons a l => simp
  omega
set_option maxRecDepth 100000 in
set_option maxHeartbeats 2000000 in
theorem next_mark (s : ByteArray) (b i : Nat) (w : World) (hs : s.size ≤ 20000) (hi : i < s.size) (h : ScanAt w b s) (hc : clsAt s i = 7) :
    Calls Tryz.prog 148 #[.pointer (some ⟨b, 0, none⟩), .int .i64 i] w (NextE s i w) := by
  have HC := Lib.hid hc
  have t0 := h.text
  go_enter Tryz.func148, Tryz.ntmps148
  go_wp2_with fail
  have HB0 := Lib.hid ((Below.refl w.heap.size w).alloc (Nat.le_refl _) (.cells #[.int .i64 0, .int .i64 0, .int .i64 0, .string ⟨#[]⟩] 156))
  refine (at_any s b i _ (by omega) (h.below HB0.out)).mono ?_
  rintro e w1 ⟨rfl, n1, hw1⟩
  rw [hc]
  clear hc
  have HT := Lib.hid (show w1.heap[w.heap.size]? = some tokT from hw1 ▸ new_ w tokT)
  have HB1 := Lib.hid (show Below w.heap.size w w1 from hw1 ▸ (HB0.out.trans ⟨rfl, rfl, rfl, Nat.le_refl _, fun _ _ => rfl⟩))
  clear hw1 HB0
  have HV := Lib.hid (hasPrefix_eq s i hi)
  have t3 := (h.below HB1.out).text
  obtain ⟨s0, s1, s2, s3, s4⟩ := four_ HT.out
  have hT := blt_ HT.out
  have hh := h.lt
  go_wp2_with fail
  refine (Tryz.strings_HasPrefix _ _ _).mono ?_
  rintro e w2 ⟨rfl, rfl⟩
  rcases hp : Lib.hasPrefix (s.extract (i + 1) s.size).data.toList [61] with _ | _
  · clear hp
    go_wp2_with fail
    refine bodyPost_ret (v := .tuple #[tokV 0 0 0 ⟨#[]⟩, .int .i64 0, .int .i64 3]) (by simp [results, Tryz.results148, go_sem, s0, s1, s2, s3, tokV]) rfl ?_
    exact ⟨0, 0, 0, _, 0, 3, rfl, next_fail (by rw [HC.out]; decide) (by decide), below4 HB1.out (Nat.le_refl _) _ _ _ _⟩
  · have hlen := HV.out hp
    clear hp
    go_wp2_with fail
    refine bodyPost_ret (v := .tuple #[tokV 4 i 0 (s.extract i (i + 2)), .int .i64 ((i + 2 : Nat)), .int .i64 0]) (by simp [results, Tryz.results148, go_sem, s0, s1, s2, s3, tokV]) rfl ?_
    exact ⟨4, i, 0, _, (i + 2), 0, rfl, next_good (by rw [HC.out]; decide) (by decide) (by omega) (by omega), below4 HB1.out (Nat.le_refl _) _ _ _ _⟩
set_option maxRecDepth 100000 in
set_option maxHeartbeats 2000000 in
theorem next_angle (s : ByteArray) (b i : Nat) (w : World) (hs : s.size ≤ 20000) (hi : i < s.size) (h : ScanAt w b s) (hc : clsAt s i = 8) :
    Calls Tryz.prog 148 #[.pointer (some ⟨b, 0, none⟩), .int .i64 i] w (NextE s i w) := by
  have HC := Lib.hid hc
  have t0 := h.text
  go_enter Tryz.func148, Tryz.ntmps148
  go_wp2_with fail
  have HB0 := Lib.hid ((Below.refl w.heap.size w).alloc (Nat.le_refl _) (.cells #[.int .i64 0, .int .i64 0, .int .i64 0, .string ⟨#[]⟩] 156))
  refine (at_any s b i _ (by omega) (h.below HB0.out)).mono ?_
  rintro e w1 ⟨rfl, n1, hw1⟩
  rw [hc]
  clear hc
  have HT := Lib.hid (show w1.heap[w.heap.size]? = some tokT from hw1 ▸ new_ w tokT)
  have HB1 := Lib.hid (show Below w.heap.size w w1 from hw1 ▸ (HB0.out.trans ⟨rfl, rfl, rfl, Nat.le_refl _, fun _ _ => rfl⟩))
  clear hw1 HB0
  have HV := Lib.hid (hasPrefix_eq s i hi)
  have t3 := (h.below HB1.out).text
  obtain ⟨s0, s1, s2, s3, s4⟩ := four_ HT.out
  have hT := blt_ HT.out
  have hh := h.lt
  go_wp2_with fail
  refine (Tryz.strings_HasPrefix _ _ _).mono ?_
  rintro e w2 ⟨rfl, rfl⟩
  rcases hp : Lib.hasPrefix (s.extract (i + 1) s.size).data.toList [61] with _ | _
  · clear hp
    go_wp2_with fail
    refine bodyPost_ret (v := .tuple #[tokV 4 i 0 (s.extract i (i + 1)), .int .i64 ((i + 1 : Nat)), .int .i64 0]) (by simp [results, Tryz.results148, go_sem, s0, s1, s2, s3, tokV]) rfl ?_
    exact ⟨4, i, 0, _, (i + 1), 0, rfl, next_good (by rw [HC.out]; decide) (by decide) (by omega) (by omega), below4 HB1.out (Nat.le_refl _) _ _ _ _⟩
  · have hlen := HV.out hp
    clear hp
    go_wp2_with fail
    refine bodyPost_ret (v := .tuple #[tokV 4 i 0 (s.extract i (i + 2)), .int .i64 ((i + 2 : Nat)), .int .i64 0]) (by simp [results, Tryz.results148, go_sem, s0, s1, s2, s3, tokV]) rfl ?_
    exact ⟨4, i, 0, _, (i + 2), 0, rfl, next_good (by rw [HC.out]; decide) (by decide) (by omega) (by omega), below4 HB1.out (Nat.le_refl _) _ _ _ _⟩
set_option maxRecDepth 100000 in
set_option maxHeartbeats 2000000 in
theorem next_quote (s : ByteArray) (b i : Nat) (w : World) (hs : s.size ≤ 20000) (hi : i < s.size) (h : ScanAt w b s) (hc : clsAt s i = 6) :
    Calls Tryz.prog 148 #[.pointer (some ⟨b, 0, none⟩), .int .i64 i] w (NextE s i w) := by
  have HC := Lib.hid hc
  have t0 := h.text
  go_enter Tryz.func148, Tryz.ntmps148
  go_wp2_with fail
  have HB0 := Lib.hid ((Below.refl w.heap.size w).alloc (Nat.le_refl _) (.cells #[.int .i64 0, .int .i64 0, .int .i64 0, .string ⟨#[]⟩] 156))
  refine (at_any s b i _ (by omega) (h.below HB0.out)).mono ?_
  rintro e w1 ⟨rfl, n1, hw1⟩
  rw [hc]
  clear hc
  have HT := Lib.hid (show w1.heap[w.heap.size]? = some tokT from hw1 ▸ new_ w tokT)
  have HB1 := Lib.hid (show Below w.heap.size w w1 from hw1 ▸ (HB0.out.trans ⟨rfl, rfl, rfl, Nat.le_refl _, fun _ _ => rfl⟩))
  clear hw1 HB0
  have t3 := (h.below HB1.out).text
  have hrs : (s.extract (i + 1) s.size).size = s.size - (i + 1) := by simp [ByteArray.size_extract]
  go_wp2_with fail
  refine (indexAny_nl _ (by omega) _).mono ?_
  rintro e w2 ⟨x, hx, rfl, hb⟩
  have HT2 := Lib.hid (below_ hb HT.out)
  have HB2 := Lib.hid (bthen HB1.out hb)
  clear HT HB1 t3 hb
  rw [hrs] at hx
  rcases hx with rfl | ⟨n, rfl, hn⟩
  · have t3 := (h.below HB2.out).text
    obtain ⟨s0, s1, s2, s3, s4⟩ := four_ HT2.out
    have hT := blt_ HT2.out
    have hh := h.lt
    go_wp2_with fail
    refine bodyPost_ret (v := .tuple #[tokV 0 0 0 ⟨#[]⟩, .int .i64 0, .int .i64 6]) (by simp [results, Tryz.results148, go_sem, s0, s1, s2, s3, tokV]) rfl ?_
    exact ⟨0, 0, 0, _, 0, 6, rfl, next_fail (by rw [HC.out]; decide) (by decide), below4 HB2.out (Nat.le_refl _) _ _ _ _⟩
  · have hr : n < (s.extract (i + 1) s.size).size := by omega
    have hri : (n : Int) < ((s.extract (i + 1) s.size).size : Int) := by omega
    obtain ⟨rest, hrest⟩ : ∃ r, r = s.extract (i + 1) s.size := ⟨_, rfl⟩
    rw [← hrest] at hr hri ⊢
    have hrs2 := hrest ▸ hrs
    clear hrest hrs
    have t3 := (h.below HB2.out).text
    obtain ⟨s0, s1, s2, s3, s4⟩ := four_ HT2.out
    have hT := blt_ HT2.out
    have hh := h.lt
    have hrr : rest[n]? = some rest[n] := by simp [hr]
    cases hq : ((rest[n].toNat : Int) == 10)
    · by_cases hl : n ≤ 400
      · have hl2 : decide ((400 : Int) < (n : Int)) = false := by simp; omega
        go_wp2_with fail
        refine bodyPost_ret (v := .tuple #[tokV 3 i 0 (rest.extract 0 n), .int .i64 ((i + n + 2 : Nat)), .int .i64 0]) (by simp [results, Tryz.results148, go_sem, s0, s1, s2, s3, tokV]) rfl ?_
        exact ⟨3, i, 0, _, (i + n + 2), 0, rfl, next_good (by rw [HC.out]; decide) (by decide) (by omega) (by omega), below4 HB2.out (Nat.le_refl _) _ _ _ _⟩
      · have hl2 : (400 : Int) < (n : Int) := by omega
        go_wp2_with fail
        refine bodyPost_ret (v := .tuple #[tokV 0 0 0 ⟨#[]⟩, .int .i64 0, .int .i64 2]) (by simp [results, Tryz.results148, go_sem, s0, s1, s2, s3, tokV]) rfl ?_
        exact ⟨0, 0, 0, _, 0, 2, rfl, next_fail (by rw [HC.out]; decide) (by decide), below4 HB2.out (Nat.le_refl _) _ _ _ _⟩
    · skip
      go_wp2_with fail
      refine bodyPost_ret (v := .tuple #[tokV 0 0 0 ⟨#[]⟩, .int .i64 0, .int .i64 6]) (by simp [results, Tryz.results148, go_sem, s0, s1, s2, s3, tokV]) rfl ?_
      exact ⟨0, 0, 0, _, 0, 6, rfl, next_fail (by rw [HC.out]; decide) (by decide), below4 HB2.out (Nat.le_refl _) _ _ _ _⟩
set_option maxHeartbeats 400000 in
/-- The lexer's 'next', at every offset within the text. -/
theorem next_any (s : ByteArray) (b i : Nat) (w : World) (hs : s.size ≤ 20000) (hi : i < s.size) (h : ScanAt w b s) :
    Calls Tryz.prog 148 #[.pointer (some ⟨b, 0, none⟩), .int .i64 i] w (NextE s i w) := by
  by_cases h3 : clsAt s i = 3
  · exact next_name s b i w hs hi h h3
  by_cases h4 : clsAt s i = 4
  · exact next_digit s b i w hs hi h h4
  by_cases h6 : clsAt s i = 6
  · exact next_quote s b i w hs hi h h6
  by_cases h7 : clsAt s i = 7
  · exact next_mark s b i w hs hi h h7
  by_cases h8 : clsAt s i = 8
  · exact next_angle s b i w hs hi h h8
  by_cases h9 : clsAt s i = 9
  · exact next_symbol s b i w hs hi h h9
  exact next_other s b i w hs hi h ⟨h3, h4, h6, h7, h8, h9⟩
end Go.Proofs.YtfajbcjcigajfaaGreatDoor
namespace Go.Proofs.YtfajbcjcigajfaaGreatDoor
open Go.RowKit

structure Tok where
  k : Int
  a : Int
  n : Int
  t : ByteArray
def TokR (x : Tok) (cs : List Value) : Prop := cs = [.int .i64 x.k, .int .i64 x.a, .int .i64 x.n, .string x.t]
/-- What is so of the tokens that have been read before an offset. -/
def LexP (s : ByteArray) (i : Nat) (l : List Tok) : Prop :=
  (∀ x ∈ l, x.k = 1 → x.t = s → nameB s = true) ∧ (nameB s = true → (l = [] ∧ i = 0) ∨ ∃ a n, l = [⟨1, a, n, s⟩] ∧ i = s.size)
/-- What Lex answers, as far as names ask for it. -/
def LexE (s : ByteArray) (w : World) (e : Ending) (w' : World) : Prop :=
  ∃ (v : Value) (l : List Tok) (er a : Int), e = .returned (.tuple #[v, .int .i64 er, .int .i64 a]) ∧ OwnAt w' w.heap.size 156 4 TokR v l ∧ l.length ≤ 5000 ∧ (er = 0 → (∀ x ∈ l, x.k = 1 → x.t = s → nameB s = true)) ∧ (nameB s = true → er = 0 ∧ ∃ a n, l = [⟨1, a, n, s⟩]) ∧ Below w.heap.size w w'
theorem info156 : (Tryz.prog.info? 156).map (fun i => (i.zero, i.size, i.bytes)) = some (some (.agg #[.int .i64 0, .int .i64 0, .int .i64 0, .string ⟨#[]⟩]), 4, 40) := by kernel_rfl
theorem OwnAt.base_le {α : Type} {w : World} {b b' : Nat} {e : TypeId} {sz : Nat} {R : α → List Value → Prop} {v : Value} {xs : List α} (h : OwnAt w b e sz R v xs) (hb : b' ≤ b) : OwnAt w b' e sz R v xs := by
  obtain ⟨cells, ⟨h1, h2⟩, h3⟩ := h
  refine ⟨cells, ⟨h1, ?_⟩, h3⟩
  rcases h2 with h2 | ⟨g, cap, cur, e1, hg, h2⟩
  · exact .inl h2
  · exact .inr ⟨g, cap, cur, e1, Nat.le_trans hb hg, h2⟩
theorem own_base {α : Type} {w : World} {b : Nat} {e : TypeId} {sz : Nat} {R : α → List Value → Prop} {v : Value} {xs : List α} (h : OwnAt w b e sz R v xs) {k : Nat} (hk : v.ownBlock = some k) : b ≤ k := by
  obtain ⟨cells, ⟨h1, h2⟩, h3⟩ := h
  rcases h2 with ⟨rfl, _⟩ | ⟨g, cap, cur, rfl, hg, h2⟩
  · cases hk
  · simp [Value.ownBlock] at hk; omega
theorem clsL_size : (rowI clsL).size = 256 := by rw [rowI_size, ← clsStep_eq]; decide +kernel
theorem scan_size (s : ByteArray) : (scanA s).size = 257 := by
  unfold scanA
  have := clsL_size
  simp only [rowI, List.size_toArray, List.length_map] at this
  simp [this]
theorem scan_one (s : ByteArray) : (scanA s).all (·.oneCell') = true := by
  unfold scanA
  simp [Value.oneCell']
theorem fold_scan (s : ByteArray) : Array.foldl (fun cs x => cs.setIfInBounds (1 + x.snd) x.fst) (Tryz.zeroCells179.setIfInBounds 0 (.string s)) (rowI clsL).zipIdx 0 256 = scanA s := by
  rw [← clsStep_eq]
  unfold scanA
  rw [← clsStep_eq]
  kernel_rfl
theorem nameB_pos {s : ByteArray} (h : nameB s = true) : 0 < s.size := by
  have := (Bool.and_eq_true_iff.1 h).2
  simp at this; exact this.1
theorem nameB_small {s : ByteArray} (h : nameB s = true) : s.size ≤ 24 := by
  have := (Bool.and_eq_true_iff.1 h).2
  simp at this; exact this.2
theorem nameB_byte {s : ByteArray} (h : nameB s = true) {k : Nat} (hk : k < s.size) : okcB k (byteN s k) = true :=
  List.all_eq_true.1 (Bool.and_eq_true_iff.1 h).1 k (List.mem_range.2 hk)
theorem nameB_first {s : ByteArray} (h : nameB s = true) : clsAt s 0 = 3 := by
  have h1 := nameB_byte h (nameB_pos h)
  simp only [okcB, Nat.lt_irrefl, decide_false, Bool.false_and, Bool.or_false] at h1
  simp [clsAt, nameB_pos h, clsI, h1]
theorem ScanAt.mk {w : World} {b : Nat} {s : ByteArray} (h : w.heap[b]? = some (.cells (scanA s) 179 (0, 0))) : ScanAt w b s := by unfold ScanAt; exact h
theorem cls_of_okc {s : ByteArray} {k : Nat} (hk : k < s.size) (h : okcB k (byteN s k) = true) : [3, 4, 5].contains (clsAt s k) = true := by
  simp only [clsAt, if_pos hk, clsI]
  simp only [okcB, Bool.or_eq_true, Bool.and_eq_true, tailB, decide_eq_true_eq] at h
  by_cases h1 : letterB (byteN s k) = true
  · simp [h1]
  · rcases h with h | ⟨_, h | h⟩
    · exact absurd h h1
    · simp [h1, h]
    · rw [h]; simp [letterB]
theorem okc_of_cls {s : ByteArray} {k : Nat} (h : [3, 4, 5].contains (clsAt s k) = true) (h0 : k = 0 → clsAt s k = 3) : okcB k (byteN s k) = true := by
  have hk : k < s.size := by
    rcases Nat.lt_or_ge k s.size with h1 | h1
    · exact h1
    · simp [clsAt, show ¬ k < s.size by omega] at h
  simp only [clsAt, if_pos hk, clsI] at h h0
  simp only [okcB, Bool.or_eq_true, Bool.and_eq_true, tailB, decide_eq_true_eq]
  by_cases h1 : letterB (byteN s k) = true
  · exact .inl h1
  · simp only [h1] at h h0
    right
    by_cases h2 : 48 ≤ byteN s k ∧ byteN s k ≤ 57
    · refine ⟨?_, .inl h2⟩
      rcases Nat.eq_zero_or_pos k with h3 | h3
      · have := h0 h3; simp [h2] at this
      · exact h3
    · simp only [h2] at h h0
      by_cases h4 : byteN s k = 95
      · refine ⟨?_, .inr h4⟩
        rcases Nat.eq_zero_or_pos k with h3 | h3
        · have := h0 h3; simp [h4] at this
        · exact h3
      · exfalso
        simp only [h4] at h
        simp only [Bool.false_eq_true, if_false] at h
        repeat' split at h
        all_goals simp at h
theorem word_end {s : ByteArray} {en : Nat} (h : nameB s = true) (hw : WhileP s [3, 4, 5] 0 en) : en = s.size := by
  rcases Nat.lt_or_ge en s.size with h1 | h1
  · have := hw.2.2.2 h1
    rw [cls_of_okc h1 (nameB_byte h h1)] at this; simp at this
  · have := hw.2.1 (Nat.zero_le _); omega
theorem name_of_word {s : ByteArray} {i en : Nat} (h3 : clsAt s i = 3) (hl : en - i ≤ 24) (hi : i < en) (hen : en ≤ s.size) (ht : s.extract i en = s) (hall : ∀ j, i ≤ j → j < en → [3, 4, 5].contains (clsAt s j) = true) : nameB s = true := by
  have h1 : (s.extract i en).size = s.size := by rw [ht]
  rw [ByteArray.size_extract] at h1
  obtain rfl : i = 0 := by omega
  obtain rfl : en = s.size := by omega
  rw [nameB, Bool.and_eq_true]
  refine ⟨List.all_eq_true.2 fun k hk => ?_, by simp; omega⟩
  exact okc_of_cls (hall k (Nat.zero_le _) (List.mem_range.1 hk)) (fun h => h ▸ h3)
theorem extract_all (s : ByteArray) : s.extract 0 s.size = s := by simp
/-- A token more. -/
theorem lexP_step {s : ByteArray} {i en : Nat} {l : List Tok} {k : Int} {t : ByteArray} {er : Int} (h : LexP s i l) (hi : i < s.size) (hx : NextP s i k t en er) :
    (er = 0 → ∀ a n j, en ≤ j → j ≤ s.size → LexP s j (l ++ [⟨k, a, n, t⟩])) ∧ (er ≠ 0 → nameB s = false) := by
  have h0 : nameB s = true → l = [] ∧ i = 0 ∧ er = 0 ∧ k = 1 ∧ t = s ∧ en = s.size := by
    intro hn
    rcases h.2 hn with ⟨h1, h2⟩ | ⟨_, _, _, h2⟩
    · subst h2
      obtain ⟨en', hw, he⟩ := hx.2.2 (nameB_first hn)
      have := word_end hn hw
      subst this
      obtain ⟨e1, e2, e3, e4⟩ := he (by have := nameB_small hn; omega)
      exact ⟨h1, rfl, e1, e2, by rw [e3, extract_all], e4⟩
    · omega
  refine ⟨fun he a n j hj1 hj2 => ⟨?_, ?_⟩, fun he => ?_⟩
  · intro x hxm hk ht
    rcases List.mem_append.1 hxm with h1 | h1
    · exact h.1 x h1 hk ht
    · simp at h1
      subst h1
      obtain ⟨c1, c2, c3, c4⟩ := hx.2.1 he hk
      exact name_of_word c1 c2 (hx.1 he).1 (hx.1 he).2 (c3.symm.trans ht) c4
  · intro hn
    obtain ⟨rfl, rfl, _, rfl, rfl, rfl⟩ := h0 hn
    exact .inr ⟨a, n, rfl, by omega⟩
  · cases hn : nameB s
    · rfl
    · exact absurd (h0 hn).2.2.1 he
set_option maxRecDepth 1000000 in
set_option maxHeartbeats 2000000 in
theorem lex_any (s : ByteArray) (w : World) (hs : s.size ≤ 140737488351232) :
    Calls Tryz.prog 123 #[.string s] w (LexE s w) := by
  by_cases hbig : s.size ≤ 20000
  · have hb' : decide ((20000 : Int) < (s.size : Int)) = false := by simp; omega
    go_enter Tryz.func123, Tryz.ntmps123
    go_wp2_with fail
    refine (classes_any _).mono ?_
    rintro e w1 ⟨rfl, hb1⟩
    have HB1 := Lib.hid hb1
    clear hb1
    have hsz : (rowI clsL).size = 256 := clsL_size
    have hfo := fold_scan s
    have hsc := scan_size s
    have R0 := Lib.hid (new_ w1 (.cells Tryz.zeroCells179 179))
    go_wp2_with (refine wpList_store_row rfl 179 (.tmp 5) (.tmp 16) rfl w1.heap.size (scanA s) rfl rfl 179 _ R0.out (by rw [scan_size]; kernel_rfl) (by rw [scan_size]; kernel_rfl) (scan_one s) ?_)
    have HB2 := Lib.hid (show Below w.heap.size w ((w1.alloc (.cells Tryz.zeroCells179 179)).setRow w1.heap.size (scanA s)) from (HB1.out.alloc HB1.out.size _).trans ⟨rfl, rfl, rfl, by simp, fun k hk => setRow_other _ _ _ _ (by have := HB1.out.size; omega)⟩)
    have hsA : ScanAt ((w1.alloc (.cells Tryz.zeroCells179 179)).setRow w1.heap.size (scanA s)) w1.heap.size s := ScanAt.mk (setRow_heap _ _ _ _ _ _ R0.out)
    clear hsz hfo hsc R0 hb'
    generalize World.setRow _ _ _ = W0 at hsA HB2 ⊢
    generalize w1.heap.size = B at hsA ⊢
    clear HB1
    refine (gap_any s B 0 _ (by omega) (by omega) hsA).mono ?_
    rintro e w2 ⟨j0, rfl, hg, hb2⟩
    have HI := Lib.hid (show LexP s j0 [] from ⟨by simp, fun hn => .inl ⟨rfl, hg.2.2 (nameB_pos hn) (nameB_first hn)⟩⟩)
    have HJ := hg.2.1 (by omega)
    have HB3 := Lib.hid (show Below W0.heap.size W0 w2 from hb2)
    clear hg hb2
    go_wp2_with fail
    go_loopw [6, 7] (fun v6 v7 wr => ∃ (l : List Tok) (i : Nat), i ≤ s.size ∧ v7 = .int .i64 i ∧ l.length ≤ 5000 ∧ Hid (LexP s i l) ∧ Hid (OwnAt wr W0.heap.size 156 4 TokR v6 l) ∧ Hid (Below W0.heap.size W0 wr)) (fun _ v7 _ => s.size - (intOf v7).toNat)
    case atStart => exact ⟨[], j0, HJ, rfl, by simp, HI, Lib.hid (OwnAt.nil _ _ _ _ _), HB3⟩
    case round =>
      clear HI HJ HB3
      obtain ⟨l, i, hi, rfl, hl5, HL, HO, HB⟩ := hrel
      obtain ⟨A, c, rfl⟩ := HO.out.shape
      by_cases hlt : i < s.size
      · have hsc := hsA.below HB.out
        go_wp2_with fail
        refine (next_any s B i wr (by omega) hlt hsc).mono ?_
        rintro e w3 ⟨k, a, n, t, en, er, rfl, hnx, hb⟩
        unfold tokV
        have HX := Lib.hid hnx
        have HB1 := Lib.hid (bthen HB.out hb)
        have HO1 := Lib.hid (HO.out.keep (R' := TokR) (fun k _ hk => hb.block k hk) (fun _ _ _ h => h))
        have HP := Lib.hid (lexP_step HL.out hlt (hnx : NextP s i k t en er))
        have hprog := hnx.1
        clear hnx hb HB HO hsc
        by_cases he : er = 0
        · subst he
          have hen := hprog rfl
          have HQ := Lib.hid (HP.out.1 rfl a n)
          clear HX HL HP hprog
          by_cases hm : l.length = 5000
          · have hm' : ((l.length : Int) == 5000) = true := by simp [hm]
            go_wp2_with fail
            go_ret3
            exact ⟨_, [], 2, i, rfl, OwnAt.nil _ _ _ _ _, by simp, fun h => by simp at h, fun h => by
              have h1 := (HQ.out en (Nat.le_refl _) hen.2).2 h
              rcases h1 with ⟨h1, _⟩ | ⟨_, _, h1, _⟩
              · simp at h1
              · have := congrArg List.length h1; rw [List.length_append, hm] at this; simp at this, (bthen HB2.out HB1.out).alloc (bthen HB2.out HB1.out).size _⟩
          · have hm' : ((l.length : Int) == 5000) = false := by simp; omega
            go_wp2_with (at_builtin; refine app_one (R := TokR) W0.heap.size rfl (.tmp 41) (.tmp 43) 152 156 _ 4 40 rfl Tryz.underlying152 info156 rfl (by decide) (by decide) (.slice A l.length c) l ⟨k, a, n, t⟩ [.int .i64 k, .int .i64 a, .int .i64 n, .string t] rfl (w3.heap.size + 1) rfl ?c0 rfl (by simp [Value.oneCell']) ?c1 ?c2 ?c3 ?_)
            case c0 => simp
            case c1 => exact HO1.out.keep (fun k _ hk => Below.heap_alloc _ _ _ hk) (fun _ _ _ h => h)
            case c2 => have := HB1.out.size; simp; omega
            case c3 => omega
            intro v1 w4 hown hg hat
            have HO4 := Lib.hid (hown TokR (fun _ _ _ h => h) rfl)
            have HB4 := Lib.hid (Below.grown ((HB1.out.alloc HB1.out.size (.cells #[.int .i64 k, .int .i64 a, .int .i64 n, .string t] 156))) hg (by have := HB1.out.size; simp; omega) (fun k hk => own_base HO1.out hk))
            clear hown hg hat HO1 HB1
            go_wp2_with fail
            refine (gap_any s B en w4 hbig hen.2 (hsA.below HB4.out)).mono ?_
            rintro e w5 ⟨j, rfl, hgp, hb5⟩
            have HL5 := Lib.hid (HQ.out j hgp.1 (hgp.2.1 hen.2))
            have HO5 := Lib.hid (HO4.out.keep (R' := TokR) (fun k _ hk => hb5.block k hk) (fun _ _ _ h => h))
            have HB5 := Lib.hid (bthen HB4.out hb5)
            have hj1 := hgp.1
            have hj2 := hgp.2.1 hen.2
            clear HQ HO4 HB4 hb5 hgp
            go_wp2_with fail
            go_roundw
            case rel => exact ⟨l ++ [⟨k, a, n, t⟩], j, hj2, rfl, by simp; omega, HL5, HO5, HB5⟩
            case measure => simp [intOf]; omega
        · have he' : (er == 0) = false := by simp [he]
          have he2 : (er != 0) = true := by simp [he]
          have HE := Lib.hid (HP.out.2 he)
          go_wp2_with fail
          go_ret3
          exact ⟨_, [], er, i, rfl, OwnAt.nil _ _ _ _ _, by simp, fun h => absurd h he, fun h => absurd h (by rw [HE.out]; decide), (bthen HB2.out HB1.out).alloc (bthen HB2.out HB1.out).size _⟩
      · have hi2 : i = s.size := by omega
        go_wp2_with fail
        go_ret3
        refine ⟨_, l, 0, 0, rfl, OwnAt.base_le HO.out HB2.out.size, hl5, fun _ => HL.out.1, fun h => ⟨rfl, ?_⟩, bthen HB2.out HB.out⟩
        rcases HL.out.2 h with ⟨_, h1⟩ | ⟨a, n, h1, _⟩
        · have := nameB_pos h; omega
        · exact ⟨a, n, h1⟩
  · have hb' : (20000 : Int) < (s.size : Int) := by omega
    go_enter Tryz.func123, Tryz.ntmps123
    go_wp2_with fail
    refine bodyPost_ret (v := .tuple #[.slice none 0 0, .int .i64 2, .int .i64 (-1)]) (by simp [results, Tryz.results123, go_sem]) rfl ?_
    exact ⟨_, [], 2, -1, rfl, OwnAt.nil _ _ _ _ _, by simp, fun h => by simp at h, fun h => by
      exfalso
      have := (Bool.and_eq_true_iff.1 h).2
      simp at this; omega, Below.refl _ _⟩
end Go.Proofs.YtfajbcjcigajfaaGreatDoor
