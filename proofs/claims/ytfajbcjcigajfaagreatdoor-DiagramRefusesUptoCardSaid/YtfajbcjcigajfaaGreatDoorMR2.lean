/- Part of the proof of a law of customhouselaw26: the texts R2. -/
import Derived.Deep.RegionHeld3
import Derived.Test.YtfajbcjcigajfaaGreatDoorMV1
import Derived.Test.YtfajbcjcigajfaaGreatDoorMR1
/- The walk of grow. -/
namespace Go.Proofs.YtfajbcjcigajfaaGreatDoor
open Go.RowKit Go.Maps

theorem own_i64 {w : World} {B : Nat} {v : Value} {l : List Int} (h : OwnAt w B 3 1 IntR v l) : ∀ x ∈ l, I64 x := by
  obtain ⟨cells, _, hr⟩ := h
  intro x hx
  obtain ⟨j, hj, rfl⟩ := List.mem_iff_getElem.1 hx
  obtain ⟨cs, _, h2, _⟩ := hr.2 j l[j] (List.getElem?_eq_getElem hj)
  exact h2.2
abbrev growArgs (f : Fm) (A : Option Addr) (c i b2 b3 b4 b5 b6 : Nat) : Array Value := #[fmV f A c, .int .i64 i, .pointer (some ⟨b2, 0, none⟩), .pointer (some ⟨b3, 0, none⟩), .pointer (some ⟨b4, 0, none⟩), .pointer (some ⟨b5, 0, none⟩), .pointer (some ⟨b6, 0, none⟩)]
set_option maxRecDepth 100000 in
set_option maxHeartbeats 8000000 in
theorem grow_any (B0 bm b2 b3 b4 b5 b6 bq : Nat) (AD : Option Addr) (cD : Nat) (fs : List Fc) (hfl : fs.length ≤ 60) (hlh : ∀ x ∈ fs, x.lo ≤ x.hi) : ∀ (rest : List Fc) (i : Nat), fs.drop i = rest → i ≤ fs.length → ∀ (X : Nat → Prop) (d : Nat) (S : Nat → Prop) (f : Fm) (A : Option Addr) (c : Nat) (s : St) (w : World), (∀ b, X b → b < w.heap.size) →
    FmR S w d f (fv f A c) → (∀ b, S b → b < w.heap.size ∧ Imm B0 w b) → OkF fs f → nodesF f ≤ 200 → sizeT s.l ≤ 4100 → GAt X w B0 bm b2 b3 b4 b5 b6 bq AD cD fs s → FcsAt (fun b => b < B0) w (.slice AD fs.length cD) fs → Lib.TabBelow Tryz.prog B0 w "internal/strconv.uint64pow10" .u64 Lib.pow10Tab → B0 ≤ w.heap.size →
    Calls Tryz.prog 39 (growArgs f A c i b2 b3 b4 b5 b6) w fun e w' => e = .returned (.int .i64 (growP rest i f s).1) ∧ GAt X w' B0 bm b2 b3 b4 b5 b6 bq AD cD fs (growP rest i f s).2 ∧ Mut B0 w w' ∧ I64 (growP rest i f s).1 := by
  intro rest
  induction rest with
  | nil =>
    intro i hrest hi X d S f A c s w hXw hf hS hok hn hsz hg hfc ht hB
    have hil : i = fs.length := by
      have := congrArg List.length hrest
      simp at this; omega
    have hlen := size_len s.l
    have HG0 := Lib.hid hg
    have hn2 : b2 ≠ b3 := by rintro rfl; have h1 := hg.m; rw [hg.f] at h1; injection h1 with h1; injection h1 with _ h1; cases h1
    have hn4 : b4 ≠ b3 := by rintro rfl; have h1 := hg.d; rw [hg.f] at h1; injection h1 with h1; injection h1 with _ h1; cases h1
    have hn5 : b5 ≠ b3 := by rintro rfl; have h1 := hg.dn; rw [hg.f] at h1; injection h1 with h1; injection h1 with _ h1; cases h1
    have hn6 : b6 ≠ b3 := by rintro rfl; have h1 := hg.fn; rw [hg.f] at h1; injection h1 with h1; injection h1 with _ h1; cases h1
    have HG1 := Lib.hid (hg.below (box_below w (.cells #[.int .i64 f.op, .string f.name, .int .i64 f.cmp, .int .i64 f.n, .slice A f.kids.length c] 24)))
    have HMU := Lib.hid (show Mut B0 w (w.alloc (.cells #[.int .i64 f.op, .string f.name, .int .i64 f.cmp, .int .i64 f.n, .slice A f.kids.length c] 24)) from Mut.of_below (box_below w (.cells #[.int .i64 f.op, .string f.name, .int .i64 f.cmp, .int .i64 f.n, .slice A f.kids.length c] 24)))
    have HFM := Lib.hid hf
    have HS := Lib.hid hS
    have HOK := Lib.hid hok
    have HFC := Lib.hid hfc
    have HT := Lib.hid ht
    have HX1 := Lib.hid (new_ w (.cells #[.int .i64 f.op, .string f.name, .int .i64 f.cmp, .int .i64 f.n, .slice A f.kids.length c] 24))
    obtain ⟨m0, m1⟩ := one_ hg.m
    have lm := blt_ hg.m
    obtain ⟨g0, g1⟩ := one_ hg.f
    have lg := blt_ hg.f
    obtain ⟨d0, d1⟩ := one_ hg.d
    have ld := blt_ hg.d
    obtain ⟨SM, hM, _⟩ := hg.tb
    obtain ⟨AT, cT, atv, hmb, _⟩ := hM.nds (by omega)
    obtain ⟨t0, t1, tf⟩ := two_ hmb
    have lt := blt_ hmb
    have HXW := Lib.hid hXw
    clear hM hmb hf hS hok hfc ht hg hXw
    by_cases h1 : f.op = 1
    · have h1' : (f.op == 1) = true := by simp [h1]
      have HV := Lib.hid (show growP [] i f s = s.leaf true by simp [growP, h1])
      clear h1
      go_enter Tryz.func39, Tryz.ntmps39
      go_wp2_with fail
      obtain ⟨SM, hM, hSX⟩ := (HG1.out).tb
      refine (node_any2 SM (fun _ => False) B0 bm s.l (leafN true) none 0 none 0 _ (Nat.zero_le _) (Nat.zero_le _) (by omega) hM ⟨by simp [leafN, I64], SliceAt.nil _ _ _ _, SliceAt.nil _ _ _ _⟩ (fun _ h => h.elim) ((HT.out.on ((HMU.out).below hB)).here)).mono ?_
      rintro e w5 ⟨rfl, hm5, hu5, hk5⟩
      have HG5 := Lib.hid ((HG1.out).step hm5 (fun b hb => Or.elim hb (hSX b) (fun h => h.elim)) hk5)
      have HU5 := Lib.hid ((HMU.out).trans hu5)
      clear hM hSX hm5 hu5 hk5
      go_wp2_with fail
      go_ret
      exact ⟨by rw [HV.out]; rfl, by rw [HV.out]; exact HG5.out, HU5.out, by rw [HV.out]; exact pos_i64 _ (by first | omega | (simp only; omega))⟩
    · have h1' : (f.op == 1) = false := beq_eq_false_iff_ne.2 h1
      by_cases h2 : f.op = 2
      · have h2' : (f.op == 2) = true := by simp [h2]
        have HV := Lib.hid (show growP [] i f s = s.leaf false by simp [growP, h2])
        clear h1 h2
        go_enter Tryz.func39, Tryz.ntmps39
        go_wp2_with fail
        obtain ⟨SM, hM, hSX⟩ := (HG1.out).tb
        refine (node_any2 SM (fun _ => False) B0 bm s.l (leafN false) none 0 none 0 _ (Nat.zero_le _) (Nat.zero_le _) (by omega) hM ⟨by simp [leafN, I64], SliceAt.nil _ _ _ _, SliceAt.nil _ _ _ _⟩ (fun _ h => h.elim) ((HT.out.on ((HMU.out).below hB)).here)).mono ?_
        rintro e w5 ⟨rfl, hm5, hu5, hk5⟩
        have HG5 := Lib.hid ((HG1.out).step hm5 (fun b hb => Or.elim hb (hSX b) (fun h => h.elim)) hk5)
        have HU5 := Lib.hid ((HMU.out).trans hu5)
        clear hM hSX hm5 hu5 hk5
        go_wp2_with fail
        go_ret
        exact ⟨by rw [HV.out]; rfl, by rw [HV.out]; exact HG5.out, HU5.out, by rw [HV.out]; exact pos_i64 _ (by first | omega | (simp only; omega))⟩
      · have h2' : (f.op == 2) = false := beq_eq_false_iff_ne.2 h2
        have hc12 : ¬ (f.op = 1 ∨ f.op = 2) := by omega
        by_cases hfu : s.full = true
        · have HV := Lib.hid (show growP [] i f s = ({ s with full := true } : St).leaf false by simp [growP, hc12, hfu])
          rw [hfu] at g0
          clear h1 h2 hc12 hfu
          go_enter Tryz.func39, Tryz.ntmps39
          go_wp2_with fail
          obtain ⟨SM, hM, hSX⟩ := ((HG0.out.setFull true).1.below (box_below _ (.cells #[.int .i64 f.op, .string f.name, .int .i64 f.cmp, .int .i64 f.n, .slice A f.kids.length c] 24))).tb
          refine (node_any2 SM (fun _ => False) B0 bm s.l (leafN false) none 0 none 0 _ (Nat.zero_le _) (Nat.zero_le _) (by omega) hM ⟨by simp [leafN, I64], SliceAt.nil _ _ _ _, SliceAt.nil _ _ _ _⟩ (fun _ h => h.elim) ((HT.out.on (((HG0.out.setFull true).2.trans (Mut.of_below (box_below _ (.cells #[.int .i64 f.op, .string f.name, .int .i64 f.cmp, .int .i64 f.n, .slice A f.kids.length c] 24)))).below hB)).here)).mono ?_
          rintro e w5 ⟨rfl, hm5, hu5, hk5⟩
          have HG5 := Lib.hid (((HG0.out.setFull true).1.below (box_below _ (.cells #[.int .i64 f.op, .string f.name, .int .i64 f.cmp, .int .i64 f.n, .slice A f.kids.length c] 24))).step hm5 (fun b hb => Or.elim hb (hSX b) (fun h => h.elim)) hk5)
          have HU5 := Lib.hid (((HG0.out.setFull true).2.trans (Mut.of_below (box_below _ (.cells #[.int .i64 f.op, .string f.name, .int .i64 f.cmp, .int .i64 f.n, .slice A f.kids.length c] 24)))).trans hu5)
          clear hM hSX hm5 hu5 hk5
          go_wp2_with fail
          go_ret
          exact ⟨by rw [HV.out]; rfl, by rw [HV.out]; exact HG5.out, HU5.out, by rw [HV.out]; exact pos_i64 _ (by first | omega | (simp only; omega))⟩
        · have hfu' : s.full = false := by simpa using hfu
          by_cases h4 : 4000 < s.l.length
          · have h4' : (4000 : Int) < (s.l.length : Int) := by omega
            have HV := Lib.hid (show growP [] i f s = ({ s with full := true } : St).leaf false by simp [growP, hc12, h4])
            rw [hfu'] at g0
            clear h1 h2 hc12 hfu h4 hfu'
            go_enter Tryz.func39, Tryz.ntmps39
            go_wp2_with fail
            obtain ⟨SM, hM, hSX⟩ := ((HG0.out.setFull true).1.below (box_below _ (.cells #[.int .i64 f.op, .string f.name, .int .i64 f.cmp, .int .i64 f.n, .slice A f.kids.length c] 24))).tb
            refine (node_any2 SM (fun _ => False) B0 bm s.l (leafN false) none 0 none 0 _ (Nat.zero_le _) (Nat.zero_le _) (by omega) hM ⟨by simp [leafN, I64], SliceAt.nil _ _ _ _, SliceAt.nil _ _ _ _⟩ (fun _ h => h.elim) ((HT.out.on (((HG0.out.setFull true).2.trans (Mut.of_below (box_below _ (.cells #[.int .i64 f.op, .string f.name, .int .i64 f.cmp, .int .i64 f.n, .slice A f.kids.length c] 24)))).below hB)).here)).mono ?_
            rintro e w5 ⟨rfl, hm5, hu5, hk5⟩
            have HG5 := Lib.hid (((HG0.out.setFull true).1.below (box_below _ (.cells #[.int .i64 f.op, .string f.name, .int .i64 f.cmp, .int .i64 f.n, .slice A f.kids.length c] 24))).step hm5 (fun b hb => Or.elim hb (hSX b) (fun h => h.elim)) hk5)
            have HU5 := Lib.hid (((HG0.out.setFull true).2.trans (Mut.of_below (box_below _ (.cells #[.int .i64 f.op, .string f.name, .int .i64 f.cmp, .int .i64 f.n, .slice A f.kids.length c] 24)))).trans hu5)
            clear hM hSX hm5 hu5 hk5
            go_wp2_with fail
            go_ret
            exact ⟨by rw [HV.out]; rfl, by rw [HV.out]; exact HG5.out, HU5.out, by rw [HV.out]; exact pos_i64 _ (by first | omega | (simp only; omega))⟩
          · have h4' : ¬ (4000 : Int) < (s.l.length : Int) := by omega
            have HV := Lib.hid (show growP [] i f s = ({ s with full := false } : St).leaf false by simp [growP, hc12, hfu', h4])
            have hii : ((i : Int) == (fs.length : Int)) = true := by simp [hil]
            rw [hfu'] at g0
            clear h1 h2 hc12 hfu h4 hfu' hil
            go_enter Tryz.func39, Tryz.ntmps39
            go_wp2_with fail
            obtain ⟨SM, hM, hSX⟩ := ((HG0.out.setFull false).1.below (box_below _ (.cells #[.int .i64 f.op, .string f.name, .int .i64 f.cmp, .int .i64 f.n, .slice A f.kids.length c] 24))).tb
            refine (node_any2 SM (fun _ => False) B0 bm s.l (leafN false) none 0 none 0 _ (Nat.zero_le _) (Nat.zero_le _) (by omega) hM ⟨by simp [leafN, I64], SliceAt.nil _ _ _ _, SliceAt.nil _ _ _ _⟩ (fun _ h => h.elim) ((HT.out.on (((HG0.out.setFull false).2.trans (Mut.of_below (box_below _ (.cells #[.int .i64 f.op, .string f.name, .int .i64 f.cmp, .int .i64 f.n, .slice A f.kids.length c] 24)))).below hB)).here)).mono ?_
            rintro e w5 ⟨rfl, hm5, hu5, hk5⟩
            have HG5 := Lib.hid (((HG0.out.setFull false).1.below (box_below _ (.cells #[.int .i64 f.op, .string f.name, .int .i64 f.cmp, .int .i64 f.n, .slice A f.kids.length c] 24))).step hm5 (fun b hb => Or.elim hb (hSX b) (fun h => h.elim)) hk5)
            have HU5 := Lib.hid (((HG0.out.setFull false).2.trans (Mut.of_below (box_below _ (.cells #[.int .i64 f.op, .string f.name, .int .i64 f.cmp, .int .i64 f.n, .slice A f.kids.length c] 24)))).trans hu5)
            clear hM hSX hm5 hu5 hk5
            go_wp2_with fail
            go_ret
            exact ⟨by rw [HV.out]; rfl, by rw [HV.out]; exact HG5.out, HU5.out, by rw [HV.out]; exact pos_i64 _ (by first | omega | (simp only; omega))⟩
  | cons x rest ih =>
    intro i hrest hi X d S f A c s w hXw hf hS hok hn hsz hg hfc ht hB
    have hil : i < fs.length := by
      have := congrArg List.length hrest
      simp at this; omega
    have HIH := Lib.hid ih
    have HLH := Lib.hid hlh
    clear ih hlh
    have hlen := size_len s.l
    have HG0 := Lib.hid hg
    have hn2 : b2 ≠ b3 := by rintro rfl; have h1 := hg.m; rw [hg.f] at h1; injection h1 with h1; injection h1 with _ h1; cases h1
    have hn4 : b4 ≠ b3 := by rintro rfl; have h1 := hg.d; rw [hg.f] at h1; injection h1 with h1; injection h1 with _ h1; cases h1
    have hn5 : b5 ≠ b3 := by rintro rfl; have h1 := hg.dn; rw [hg.f] at h1; injection h1 with h1; injection h1 with _ h1; cases h1
    have hn6 : b6 ≠ b3 := by rintro rfl; have h1 := hg.fn; rw [hg.f] at h1; injection h1 with h1; injection h1 with _ h1; cases h1
    have HG1 := Lib.hid (hg.below (box_below w (.cells #[.int .i64 f.op, .string f.name, .int .i64 f.cmp, .int .i64 f.n, .slice A f.kids.length c] 24)))
    have HMU := Lib.hid (show Mut B0 w (w.alloc (.cells #[.int .i64 f.op, .string f.name, .int .i64 f.cmp, .int .i64 f.n, .slice A f.kids.length c] 24)) from Mut.of_below (box_below w (.cells #[.int .i64 f.op, .string f.name, .int .i64 f.cmp, .int .i64 f.n, .slice A f.kids.length c] 24)))
    have HFM := Lib.hid hf
    have HS := Lib.hid hS
    have HOK := Lib.hid hok
    have HFC := Lib.hid hfc
    have HT := Lib.hid ht
    have HX1 := Lib.hid (new_ w (.cells #[.int .i64 f.op, .string f.name, .int .i64 f.cmp, .int .i64 f.n, .slice A f.kids.length c] 24))
    obtain ⟨m0, m1⟩ := one_ hg.m
    have lm := blt_ hg.m
    obtain ⟨g0, g1⟩ := one_ hg.f
    have lg := blt_ hg.f
    obtain ⟨d0, d1⟩ := one_ hg.d
    have ld := blt_ hg.d
    obtain ⟨SM, hM, _⟩ := hg.tb
    obtain ⟨AT, cT, atv, hmb, _⟩ := hM.nds (by omega)
    obtain ⟨t0, t1, tf⟩ := two_ hmb
    have lt := blt_ hmb
    have HXW := Lib.hid hXw
    clear hM hmb hf hS hok hfc ht hg hXw
    by_cases h1 : f.op = 1
    · have h1' : (f.op == 1) = true := by simp [h1]
      have HV := Lib.hid (show growP (x :: rest) i f s = s.leaf true by simp [growP, h1])
      clear h1
      go_enter Tryz.func39, Tryz.ntmps39
      go_wp2_with fail
      obtain ⟨SM, hM, hSX⟩ := (HG1.out).tb
      refine (node_any2 SM (fun _ => False) B0 bm s.l (leafN true) none 0 none 0 _ (Nat.zero_le _) (Nat.zero_le _) (by omega) hM ⟨by simp [leafN, I64], SliceAt.nil _ _ _ _, SliceAt.nil _ _ _ _⟩ (fun _ h => h.elim) ((HT.out.on ((HMU.out).below hB)).here)).mono ?_
      rintro e w5 ⟨rfl, hm5, hu5, hk5⟩
      have HG5 := Lib.hid ((HG1.out).step hm5 (fun b hb => Or.elim hb (hSX b) (fun h => h.elim)) hk5)
      have HU5 := Lib.hid ((HMU.out).trans hu5)
      clear hM hSX hm5 hu5 hk5
      go_wp2_with fail
      go_ret
      exact ⟨by rw [HV.out]; rfl, by rw [HV.out]; exact HG5.out, HU5.out, by rw [HV.out]; exact pos_i64 _ (by first | omega | (simp only; omega))⟩
    · have h1' : (f.op == 1) = false := beq_eq_false_iff_ne.2 h1
      by_cases h2 : f.op = 2
      · have h2' : (f.op == 2) = true := by simp [h2]
        have HV := Lib.hid (show growP (x :: rest) i f s = s.leaf false by simp [growP, h2])
        clear h1 h2
        go_enter Tryz.func39, Tryz.ntmps39
        go_wp2_with fail
        obtain ⟨SM, hM, hSX⟩ := (HG1.out).tb
        refine (node_any2 SM (fun _ => False) B0 bm s.l (leafN false) none 0 none 0 _ (Nat.zero_le _) (Nat.zero_le _) (by omega) hM ⟨by simp [leafN, I64], SliceAt.nil _ _ _ _, SliceAt.nil _ _ _ _⟩ (fun _ h => h.elim) ((HT.out.on ((HMU.out).below hB)).here)).mono ?_
        rintro e w5 ⟨rfl, hm5, hu5, hk5⟩
        have HG5 := Lib.hid ((HG1.out).step hm5 (fun b hb => Or.elim hb (hSX b) (fun h => h.elim)) hk5)
        have HU5 := Lib.hid ((HMU.out).trans hu5)
        clear hM hSX hm5 hu5 hk5
        go_wp2_with fail
        go_ret
        exact ⟨by rw [HV.out]; rfl, by rw [HV.out]; exact HG5.out, HU5.out, by rw [HV.out]; exact pos_i64 _ (by first | omega | (simp only; omega))⟩
      · have h2' : (f.op == 2) = false := beq_eq_false_iff_ne.2 h2
        have hc12 : ¬ (f.op = 1 ∨ f.op = 2) := by omega
        by_cases hfu : s.full = true
        · have HV := Lib.hid (show growP (x :: rest) i f s = ({ s with full := true } : St).leaf false by simp [growP, hc12, hfu])
          rw [hfu] at g0
          clear h1 h2 hc12 hfu
          go_enter Tryz.func39, Tryz.ntmps39
          go_wp2_with fail
          obtain ⟨SM, hM, hSX⟩ := ((HG0.out.setFull true).1.below (box_below _ (.cells #[.int .i64 f.op, .string f.name, .int .i64 f.cmp, .int .i64 f.n, .slice A f.kids.length c] 24))).tb
          refine (node_any2 SM (fun _ => False) B0 bm s.l (leafN false) none 0 none 0 _ (Nat.zero_le _) (Nat.zero_le _) (by omega) hM ⟨by simp [leafN, I64], SliceAt.nil _ _ _ _, SliceAt.nil _ _ _ _⟩ (fun _ h => h.elim) ((HT.out.on (((HG0.out.setFull true).2.trans (Mut.of_below (box_below _ (.cells #[.int .i64 f.op, .string f.name, .int .i64 f.cmp, .int .i64 f.n, .slice A f.kids.length c] 24)))).below hB)).here)).mono ?_
          rintro e w5 ⟨rfl, hm5, hu5, hk5⟩
          have HG5 := Lib.hid (((HG0.out.setFull true).1.below (box_below _ (.cells #[.int .i64 f.op, .string f.name, .int .i64 f.cmp, .int .i64 f.n, .slice A f.kids.length c] 24))).step hm5 (fun b hb => Or.elim hb (hSX b) (fun h => h.elim)) hk5)
          have HU5 := Lib.hid (((HG0.out.setFull true).2.trans (Mut.of_below (box_below _ (.cells #[.int .i64 f.op, .string f.name, .int .i64 f.cmp, .int .i64 f.n, .slice A f.kids.length c] 24)))).trans hu5)
          clear hM hSX hm5 hu5 hk5
          go_wp2_with fail
          go_ret
          exact ⟨by rw [HV.out]; rfl, by rw [HV.out]; exact HG5.out, HU5.out, by rw [HV.out]; exact pos_i64 _ (by first | omega | (simp only; omega))⟩
        · have hfu' : s.full = false := by simpa using hfu
          by_cases h4 : 4000 < s.l.length
          · have h4' : (4000 : Int) < (s.l.length : Int) := by omega
            have HV := Lib.hid (show growP (x :: rest) i f s = ({ s with full := true } : St).leaf false by simp [growP, hc12, h4])
            rw [hfu'] at g0
            clear h1 h2 hc12 hfu h4 hfu'
            go_enter Tryz.func39, Tryz.ntmps39
            go_wp2_with fail
            obtain ⟨SM, hM, hSX⟩ := ((HG0.out.setFull true).1.below (box_below _ (.cells #[.int .i64 f.op, .string f.name, .int .i64 f.cmp, .int .i64 f.n, .slice A f.kids.length c] 24))).tb
            refine (node_any2 SM (fun _ => False) B0 bm s.l (leafN false) none 0 none 0 _ (Nat.zero_le _) (Nat.zero_le _) (by omega) hM ⟨by simp [leafN, I64], SliceAt.nil _ _ _ _, SliceAt.nil _ _ _ _⟩ (fun _ h => h.elim) ((HT.out.on (((HG0.out.setFull true).2.trans (Mut.of_below (box_below _ (.cells #[.int .i64 f.op, .string f.name, .int .i64 f.cmp, .int .i64 f.n, .slice A f.kids.length c] 24)))).below hB)).here)).mono ?_
            rintro e w5 ⟨rfl, hm5, hu5, hk5⟩
            have HG5 := Lib.hid (((HG0.out.setFull true).1.below (box_below _ (.cells #[.int .i64 f.op, .string f.name, .int .i64 f.cmp, .int .i64 f.n, .slice A f.kids.length c] 24))).step hm5 (fun b hb => Or.elim hb (hSX b) (fun h => h.elim)) hk5)
            have HU5 := Lib.hid (((HG0.out.setFull true).2.trans (Mut.of_below (box_below _ (.cells #[.int .i64 f.op, .string f.name, .int .i64 f.cmp, .int .i64 f.n, .slice A f.kids.length c] 24)))).trans hu5)
            clear hM hSX hm5 hu5 hk5
            go_wp2_with fail
            go_ret
            exact ⟨by rw [HV.out]; rfl, by rw [HV.out]; exact HG5.out, HU5.out, by rw [HV.out]; exact pos_i64 _ (by first | omega | (simp only; omega))⟩
          · have h4' : ¬ (4000 : Int) < (s.l.length : Int) := by omega
            have hii : ((i : Int) == (fs.length : Int)) = false := beq_eq_false_iff_ne.2 (by omega)
            have HV := Lib.hid (show growP (x :: rest) i f s = (match mget s.done (keyS i f) with
              | some k => (k, { s with full := false })
              | none => (growKids rest i x f (startsL x f) { s with full := false }).2.inner (keyS i f) i (startsL x f) (growKids rest i x f (startsL x f) { s with full := false }).1) by
                rw [growP, if_neg hc12, if_neg (by simp [hfu', h4])]; rfl)
            rw [hfu'] at g0
            have HGA := Lib.hid ((HG0.out.setFull false).1.below (box_below _ (.cells #[.int .i64 f.op, .string f.name, .int .i64 f.cmp, .int .i64 f.n, .slice A f.kids.length c] 24)))
            have HMA := Lib.hid ((HG0.out.setFull false).2.trans (Mut.of_below (box_below _ (.cells #[.int .i64 f.op, .string f.name, .int .i64 f.cmp, .int .i64 f.n, .slice A f.kids.length c] 24))))
            clear h1 h2 hc12 hfu h4 hfu'
            go_enter Tryz.func39, Tryz.ntmps39
            go_wp2_with fail
            have hz2 : ((w.setCell ⟨b3, 0, none⟩ (.bool false)).alloc (.cells #[.int .i64 f.op, .string f.name, .int .i64 f.cmp, .int .i64 f.n, .slice A f.kids.length c] 24)).heap.size = w.heap.size + 1 := by simp [World.setCell]
            have HX2 := Lib.hid (show ((w.setCell ⟨b3, 0, none⟩ (.bool false)).alloc (.cells #[.int .i64 f.op, .string f.name, .int .i64 f.cmp, .int .i64 f.n, .slice A f.kids.length c] 24)).heap[w.heap.size]? = some (.cells #[.int .i64 f.op, .string f.name, .int .i64 f.cmp, .int .i64 f.n, .slice A f.kids.length c] 24 (0, 0)) from alk _ _ (by simp [World.setCell]))
            have HFR := Lib.hid (show FmR (fun b => S b ∧ b < w.heap.size) ((w.setCell ⟨b3, 0, none⟩ (.bool false)).alloc (.cells #[.int .i64 f.op, .string f.name, .int .i64 f.cmp, .int .i64 f.n, .slice A f.kids.length c] 24)) d f (fv f A c) from HFM.out.keep (by rw [hz2]; omega) (fun b hb hs => HMA.out.block b hb (HS.out b hs).2) (fun b hb hs => ⟨hs, hb⟩))
            obtain ⟨W2, hW2⟩ : ∃ W2, W2 = ((w.setCell ⟨b3, 0, none⟩ (.bool false)).alloc (.cells #[.int .i64 f.op, .string f.name, .int .i64 f.cmp, .int .i64 f.n, .slice A f.kids.length c] 24)) := ⟨_, rfl⟩
            rw [← hW2] at HGA HMA HX2 HFR hz2 ⊢
            clear hW2 m0 m1 lm g0 g1 lg d0 d1 ld t0 t1 tf lt HX1 HG1 HMU HG0 hn2 hn4 hn5 hn6
            have hsl := spell_len f HOK.out
            have hZ2 := Lib.hid hz2
            have hb3 := box_below W2 (.cells #[.pointer none, .slice none 0 0] 75)
            have hM3 := HMA.out.trans (Mut.of_below hb3)
            refine (spell_any d (fun b => S b ∧ b < w.heap.size) f A c (w.heap.size + 1) (w.heap.size + 1) [] _ (HFR.out.keep hb3.size (Agree.of_below hb3) (fun _ _ h => h)) (fun k hk => by have := hk.2; omega) (by have := Lib.fresh_isBuilder 75 5 W2; rw [hz2] at this; exact this) (by simp [hz2]) (fun w' hb => HT.out w' ((hM3.below hB).trans (hb.mono (by omega)))) (by simp; omega)).mono ?_
            rintro e w4 ⟨rfl, hu4, hb4, _⟩
            have HB24 := Lib.hid (show Below (w.heap.size + 1) W2 w4 from (hb3.mono (by omega)).trans hb4)
            have HU4 := Lib.hid hu4
            have hs4 : w.heap.size + 1 ≤ w4.heap.size := by have := HB24.out.size; omega
            clear hu4 hb4 hb3 hM3
            go_wp2_with fail
            have hiI : I64 (i : Int) := by unfold I64; omega
            refine (itoaBelow i hiI w4 ((HT.out.on ((HMA.out.trans (Mut.of_below (by rw [hz2]; exact HB24.out))).below hB)).here)).mono ?_
            rintro e w5 ⟨rfl, hb5⟩
            have HU5 := Lib.hid (isb_keep HU4.out hb5)
            have HB25 := Lib.hid (HB24.out.trans (hb5.mono hs4))
            have hs5 : w.heap.size + 1 ≤ w5.heap.size := by have := hb5.size; omega
            clear hb5 HU4 HB24 hs4
            go_wp2_with fail
            refine (Tryz.Builder_String_any (w.heap.size + 1) (w.heap.size + 1) (spellS f) w5 (by simpa using HU5.out) hs5).mono ?_
            rintro e w6 ⟨rfl, hb6⟩
            have hb26 : Below W2.heap.size W2 w6 := by rw [hz2]; exact HB25.out.trans hb6
            have HG6 := Lib.hid (HGA.out.below hb26)
            have HM6 := Lib.hid (HMA.out.trans (Mut.of_below hb26))
            have HX6 := Lib.hid (below_ hb26 HX2.out)
            have HFR6 := Lib.hid (HFR.out.keep (S2 := fun b => S b ∧ b < w.heap.size) hb26.size (Agree.of_below hb26) (fun _ _ h => h))
            have hs6 : w.heap.size + 1 ≤ w6.heap.size := by have := hb26.size; omega
            have n1 := itoa_le hiI
            have hks : (keyS i f).size ≤ 140737488351232 := by unfold keyS; rw [size_of, List.length_append]; omega
            have hcat : Op.stringOp .add (bytesOf (Lib.itoa i)) ⟨(spellS f).toArray⟩ = pure (.string (keyS i f)) := by
              have h1 := cat_ok (bytesOf (Lib.itoa i)) (bytesOf (spellS f)) (by rw [size_of, size_of]; omega)
              rw [bytes_cat] at h1
              exact h1
            have hlk := MapAt.look HG6.out.map keyed9 Tryz.underlying65 strInj (keyStr hks) (zero3 _) true
            generalize keyS i f = key at *
            clear hb6 hb26 HU5 HB25 hs5 HGA HMA HX2 HFR hz2 n1
            obtain ⟨n0, n1⟩ := one_ HG6.out.dn
            have ln := blt_ HG6.out.dn
            cases hmg : mget s.done key with
            | some k =>
              rw [hmg] at hlk HV
              simp only [if_true] at hlk HV
              have HV2 := Lib.hid HV.out
              have hki := mget_val HG6.out.vals hmg
              clear hmg
              go_wp2_with fail
              go_ret
              exact ⟨by rw [HV2.out]; rfl, by rw [HV2.out]; exact HG6.out, HM6.out, by rw [HV2.out]; exact hki⟩
            | none =>
              rw [hmg] at hlk HV
              simp only [if_true] at hlk HV
              have HV2 := Lib.hid HV.out
              clear hmg
              go_wp2_with fail
              have hxi : fs[i]? = some x := by
                have h1 : (fs.drop i)[0]? = some x := by rw [hrest]; rfl
                simpa using h1
              have hxl : fs[i] = x := by rw [List.getElem?_eq_getElem hil] at hxi; injection hxi
              obtain ⟨bf, of, rfl, hSbf, hbf, e0, e1, e2, e3, i1, i2, i3, hnm⟩ := fc_cells (HFC.out.keep (HM6.out.below hB).size (fun b hb hs => (HM6.out.below hB).block b hs) (fun b hb hs => (⟨hs, hb⟩ : b < B0 ∧ b < w.heap.size))) hil
              rw [hxl] at e0 e1 e2 e3 i1 i2 i3 hnm
              have hzi : (i : Int) < (fs.length : Int) := by omega
              obtain ⟨d0, d1⟩ := one_ HG6.out.d
              have hbfB : bf < B0 := hSbf.1
              have HSW := Lib.hid (show ∀ W, Mut B0 w6 W → W.cell? ⟨w.heap.size, 0, none⟩ = some (.int .i64 f.op) ∧ W.cell? ⟨w.heap.size, 1, none⟩ = some (.string f.name) ∧ W.cell? ⟨w.heap.size, 2, none⟩ = some (.int .i64 f.cmp) ∧ W.cell? ⟨w.heap.size, 3, none⟩ = some (.int .i64 f.n) ∧ W.cell? ⟨w.heap.size, 4, none⟩ = some (.slice A f.kids.length c) ∧ W.cell? ⟨b4, 0, none⟩ = some (.slice (some ⟨bf, of, none⟩) fs.length cD) ∧ W.cell? ⟨bf, of + i * 4, none⟩ = some (.string x.name) ∧ W.cell? ⟨bf, of + i * 4 + 1, none⟩ = some (.int .i64 x.kind) ∧ W.cell? ⟨bf, of + i * 4 + 2, none⟩ = some (.int .i64 x.lo) ∧ W.cell? ⟨bf, of + i * 4 + 3, none⟩ = some (.int .i64 x.hi) from fun W hW => by
                obtain ⟨y0, y1, y2, y3, y4, _⟩ := five_ ((hW.block _ (blt_ HX6.out) (.inr ⟨_, 24, _, HX6.out, rfl⟩)).trans HX6.out)
                have yd := (one_ ((hW.block _ (blt_ HG6.out.d) (.inr ⟨_, 27, _, HG6.out.d, rfl⟩)).trans HG6.out.d)).1
                have hc := hW.block bf (by omega) (.inl hbfB)
                exact ⟨y0, y1, y2, y3, y4, yd, (World.cell?_of_block (a := ⟨bf, of + i * 4, none⟩) hc).trans e0, (World.cell?_of_block (a := ⟨bf, of + i * 4 + 1, none⟩) hc).trans e1, (World.cell?_of_block (a := ⟨bf, of + i * 4 + 2, none⟩) hc).trans e2, (World.cell?_of_block (a := ⟨bf, of + i * 4 + 3, none⟩) hc).trans e3⟩)
              have HXI := Lib.hid hxi
              clear hxi hxl n0 n1 ln e0 e1 e2 e3 d0 d1 hlk hcat
              have hcl := cuts_len x.name f
              have HFRD := Lib.hid (show FmR (fun b => S b ∧ b < w.heap.size) w6.drew d f (fv f A c) from FmR.keep (w := w6) (w' := w6.drew) (Nat.le_refl _) (fun _ _ _ => rfl) (fun _ _ h => h) HFR6.out)
              go_region_held3 (fun W => W.cell? ⟨w.heap.size, 0, none⟩ = some (.int .i64 f.op) ∧ W.cell? ⟨w.heap.size, 1, none⟩ = some (.string f.name) ∧ W.cell? ⟨w.heap.size, 2, none⟩ = some (.int .i64 f.cmp) ∧ W.cell? ⟨w.heap.size, 3, none⟩ = some (.int .i64 f.n) ∧ W.cell? ⟨w.heap.size, 4, none⟩ = some (.slice A f.kids.length c) ∧ W.cell? ⟨b4, 0, none⟩ = some (.slice (some ⟨bf, of, none⟩) fs.length cD) ∧ W.cell? ⟨bf, of + i * 4, none⟩ = some (.string x.name) ∧ W.cell? ⟨bf, of + i * 4 + 1, none⟩ = some (.int .i64 x.kind) ∧ W.cell? ⟨bf, of + i * 4 + 2, none⟩ = some (.int .i64 x.lo) ∧ W.cell? ⟨bf, of + i * 4 + 3, none⟩ = some (.int .i64 x.hi)) (first | exact HSW.out _ (Mut.of_below (Below.refl _ _).drew) | exact HSW.out _ (Mut.of_below HB67.out))
                (first
                  | (go_at_call 44; refine (starts_any d (fun b => S b ∧ b < w.heap.size) f A c x w6.drew HFRD.out (ok_small HOK.out) i2 (by omega)).mono ?_; rintro e w7 ⟨v7, rfl, ho7, hb7⟩; obtain ⟨A7, c7, rfl⟩ := ho7.shape; have HO7 := Lib.hid ho7; have HB67 := Lib.hid (show Below w6.heap.size w6 w7 from (Below.refl _ _).drew.trans hb7); clear ho7 hb7))
              go_wp2_with fail
              have HKU := Lib.hid (Mut.of_below (B0 := B0) HB67.out)
              have HG7 := Lib.hid (HG6.out.below HB67.out)
              have hs7 := HB67.out.size
              have hcast : ((i + 1 : Nat) : Int) = (i : Int) + 1 := by omega
              have hdr : fs.drop (i + 1) = rest := by
                have h1 : fs.drop (i + 1) = (fs.drop i).drop 1 := by rw [List.drop_drop]
                rw [h1, hrest]; rfl
              have hrl : rest.length ≤ 60 := by have := congrArg List.length hdr; simp at this; omega
              have HDR := Lib.hid hdr
              have hll : (startsL x f).length ≤ 600 := by
                unfold startsL
                have h1 := Lib.compact_length_le (((x.lo :: cutsF x.name f).mergeSort fun a b => decide (a ≤ b)).filter fun n => !outB x n)
                have h2 := List.length_filter_le (fun n => !outB x n) ((x.lo :: cutsF x.name f).mergeSort fun a b => decide (a ≤ b))
                have h3 : ((x.lo :: cutsF x.name f).mergeSort fun a b => decide (a ≤ b)).length = (x.lo :: cutsF x.name f).length := List.length_mergeSort _
                simp only [List.length_cons] at h3
                omega
              have HLL := Lib.hid (own_i64 HO7.out)
              have HLP := Lib.hid (starts_pos f (HLH.out x (List.mem_of_getElem? HXI.out)))
              generalize hL : startsL x f = L at *
              clear hL hdr hcl
              have HGK := Lib.hid (fun vs => growKids_size rest i x f vs { s with full := false })
              have HGL := Lib.hid (fun vs => growKids_len rest i x f vs { s with full := false })
              have HGS := Lib.hid (fun vs v => growKids_snoc rest i x f vs v { s with full := false })
              go_loopw [15, 17, 77] (fun v15 _ v wr => ∃ (j : Nat) (vk : Value), j ≤ L.length ∧ v = .int .i64 j ∧ vk = v15 ∧ Hid (OwnAt wr w7.heap.size 3 1 IntR vk (growKids rest i x f (L.take j) { s with full := false }).1) ∧ Hid (GAt (fun b => X b ∨ vk.ownBlock = some b) wr B0 bm b2 b3 b4 b5 b6 bq (some ⟨bf, of, none⟩) cD fs (growKids rest i x f (L.take j) { s with full := false }).2) ∧ Hid (Mut B0 w7 wr)) (fun _ _ v _ => L.length - (intOf v).toNat)
              case atStart => exact ⟨0, _, Nat.zero_le _, rfl, rfl, Lib.hid (OwnAt.nil _ _ _ _ _), Lib.hid (by have := HG7.out.mono (Y := fun b => X b ∨ (Value.slice none 0 0).ownBlock = some b) (fun b hb => hb.elim id (fun h => by cases h)); simpa [growKids] using this), Lib.hid (Mut.refl _ _)⟩
              case round =>
                clear HG7
                obtain ⟨j, vk, hj, rfl, rfl, HOK4, HG7, HMW⟩ := hrel
                have HMW6 := Lib.hid (HKU.out.trans HMW.out)
                have HMWA := Lib.hid (HM6.out.trans HMW6.out)
                have HO8 := Lib.hid (HO7.out.keep (w' := wr) (fun k hk hlt => HMW.out.block k hlt (.inr (by obtain ⟨_, _, c, hc⟩ := own_lt HO7.out hk; exact ⟨c, 3, _, hc, rfl⟩))) (fun _ _ _ h => h))
                by_cases hlt : j < L.length
                · obtain ⟨g7, c7', hv7, _, _, hg7l, _, _, hgx⟩ := HO8.out.at_ (by omega)
                  simp only [Value.slice.injEq] at hv7
                  obtain ⟨rfl, hv8, rfl⟩ := hv7
                  clear hv8
                  obtain ⟨cs7, _, ⟨rfl, hvi⟩, hcc⟩ := hgx j L[j] (List.getElem?_eq_getElem hlt)
                  have k0 := hcc 0 _ rfl
                  rw [Nat.mul_one, Nat.add_zero] at k0
                  have HTK := Lib.hid (show L.take (j + 1) = L.take j ++ [L[j]] from List.take_succ_eq_append_getElem hlt)
                  generalize L[j] = v at *
                  clear hcc hgx
                  have hgs := HGS.out (L.take j) v
                  have hgz := HGK.out (L.take j)
                  have hgl := HGL.out (L.take j)
                  rw [← HTK.out] at hgs
                  rw [List.length_take] at hgl
                  have hkI := Lib.hid (own_i64 HOK4.out)
                  generalize growKids rest i x f (L.take j) { s with full := false } = q at *
                  generalize hq2 : growKids rest i x f (L.take (j + 1)) { s with full := false } = q2 at *
                  have HQG := Lib.hid hq2
                  clear hq2
                  obtain ⟨kj, sj⟩ := q
                  simp only at hgs hgz hgl HOK4 HG7
                  have HQ2 := Lib.hid hgs
                  have hszj : sizeT sj.l ≤ 4100 := by omega
                  have hfmok := ok_fmok f HOK.out hn
                  have HOG := Lib.hid (given_ok x.name v HOK.out)
                  have hgn := given_nodes x.name v f (ok_form HOK.out)
                  have HFRW := Lib.hid (show FmR (fun b => S b ∧ b < w.heap.size) wr.drew d f (fv f A c) from FmR.keep (w := w6) (w' := wr.drew) HMW6.out.size (fun b hb hs => HMW6.out.block b hb ((HS.out b hs.1).2.mut hs.2 HM6.out)) (fun _ _ h => h) HFR6.out)
                  have HXR := Lib.hid ((HMW6.out.block _ (blt_ HX6.out) (.inr ⟨_, 24, _, HX6.out, rfl⟩)).trans HX6.out)
                  have HSX := Lib.hid (show ∀ W : World, (∀ k, k < wr.heap.size → Imm B0 wr k → some k ≠ vk.ownBlock → W.heap[k]? = wr.heap[k]?) → W.cell? ⟨b6, 0, none⟩ = some (.func (Fn.func 39) #[] #[.pointer (some ⟨b2, 0, none⟩), .pointer (some ⟨b3, 0, none⟩), .pointer (some ⟨b4, 0, none⟩), .pointer (some ⟨b5, 0, none⟩), .pointer (some ⟨b6, 0, none⟩)]) ∧ W.cell? ⟨w.heap.size, 0, none⟩ = some (.int .i64 f.op) ∧ W.cell? ⟨w.heap.size, 1, none⟩ = some (.string f.name) ∧ W.cell? ⟨w.heap.size, 2, none⟩ = some (.int .i64 f.cmp) ∧ W.cell? ⟨w.heap.size, 3, none⟩ = some (.int .i64 f.n) ∧ W.cell? ⟨w.heap.size, 4, none⟩ = some (.slice A f.kids.length c) ∧ W.cell? ⟨b4, 0, none⟩ = some (.slice (some ⟨bf, of, none⟩) fs.length cD) ∧ W.cell? ⟨bf, of + i * 4, none⟩ = some (.string x.name) from fun W hW => by
                    obtain ⟨y0, y1, y2, y3, y4, yd, z0, _, _, _⟩ := HSW.out wr HMW6.out
                    have hx1 := hW _ (blt_ HXR.out) (.inr ⟨_, 24, _, HXR.out, rfl⟩) (ne_row HOK4.out HXR.out (by decide))
                    have hx2 := hW _ (blt_ HG7.out.d) (.inr ⟨_, 27, _, HG7.out.d, rfl⟩) (ne_row HOK4.out HG7.out.d (by decide))
                    have hx3 := hW _ (blt_ HG7.out.fn) (.inr ⟨_, 70, _, HG7.out.fn, rfl⟩) (ne_row HOK4.out HG7.out.fn (by decide))
                    have hx4 := hW bf (by have := HMW6.out.size; omega) (.inl hbfB) (fun e => by have := (own_lt HOK4.out e.symm).2.1; omega)
                    exact ⟨(World.cell?_of_block (a := ⟨b6, 0, none⟩) hx3).trans (one_ HG7.out.fn).1, (World.cell?_of_block (a := ⟨w.heap.size, 0, none⟩) hx1).trans y0, (World.cell?_of_block (a := ⟨w.heap.size, 1, none⟩) hx1).trans y1, (World.cell?_of_block (a := ⟨w.heap.size, 2, none⟩) hx1).trans y2, (World.cell?_of_block (a := ⟨w.heap.size, 3, none⟩) hx1).trans y3, (World.cell?_of_block (a := ⟨w.heap.size, 4, none⟩) hx1).trans y4, (World.cell?_of_block (a := ⟨b4, 0, none⟩) hx2).trans yd, (World.cell?_of_block (a := ⟨bf, of + i * 4, none⟩) hx4).trans z0⟩)
                  have hjs : (j : Int) < (L.length : Int) := by omega
                  have HBW := Lib.hid (HMWA.out.below hB)
                  have hBwr : B0 ≤ wr.heap.size := by have := HMWA.out.size; omega
                  clear hgs hgz
                  have HCALL := Lib.hid (show ∀ (wB : World) (Ag : Option Addr) (cg : Nat), Below wr.heap.size wr wB → FmR (SN (fun b => S b ∧ b < w.heap.size) wr.drew wB) wB d (given x.name v f) (fv (given x.name v f) Ag cg) →
                      Calls Tryz.prog 39 #[.agg #[.int .i64 (given x.name v f).op, .string (given x.name v f).name, .int .i64 (given x.name v f).cmp, .int .i64 (given x.name v f).n, .slice Ag (given x.name v f).kids.length cg], .int .i64 ((i : Int) + 1), .pointer (some ⟨b2, 0, none⟩), .pointer (some ⟨b3, 0, none⟩), .pointer (some ⟨b4, 0, none⟩), .pointer (some ⟨b5, 0, none⟩), .pointer (some ⟨b6, 0, none⟩)] wB fun e w' => e = .returned (.int .i64 (growP rest ((i : Int) + 1) (given x.name v f) sj).1) ∧ GAt (fun b => X b ∨ vk.ownBlock = some b) w' B0 bm b2 b3 b4 b5 b6 bq (some ⟨bf, of, none⟩) cD fs (growP rest ((i : Int) + 1) (given x.name v f) sj).2 ∧ Mut B0 wr w' ∧ I64 (growP rest ((i : Int) + 1) (given x.name v f) sj).1 from by
                    intro wB Ag cg hbB hfg
                    have hcl := HIH.out (i + 1) HDR.out (by omega) (fun b => X b ∨ vk.ownBlock = some b) d (SN (fun b => S b ∧ b < w.heap.size) wr.drew wB) (given x.name v f) Ag cg sj wB (fun b hb => Nat.lt_of_lt_of_le (hb.elim (fun h => Nat.lt_of_lt_of_le (HXW.out b h) HMWA.out.size) (fun h => (own_lt HOK4.out h).1)) hbB.size) hfg (fun b hb => by
                      rcases hb with hb | ⟨hb, c2, hc2⟩
                      · exact ⟨Nat.lt_of_lt_of_le hb.2 hbB.size, ((((HS.out b hb.1.1).2.mut hb.1.2 HM6.out).mut (Nat.lt_of_lt_of_le hb.1.2 HM6.out.size) HMW6.out).mut hb.2 (Mut.of_below hbB))⟩
                      · exact ⟨blt_ hc2, .inr ⟨c2, 24, _, hc2, rfl⟩⟩) HOG.out (by omega) hszj (HG7.out.below hbB) (HFC.out.keep (HBW.out.trans (hbB.mono hBwr)).size (fun b hb hs => (HBW.out.trans (hbB.mono hBwr)).block b hs) (fun _ _ h => h)) (HT.out.on (HBW.out.trans (hbB.mono hBwr))) (Nat.le_trans hBwr hbB.size)
                    rw [hcast] at hcl
                    unfold growArgs at hcl
                    rw [hcast] at hcl
                    refine hcl.mono ?_
                    rintro e w' ⟨h1, h2, h3, h4⟩
                    exact ⟨h1, h2, (Mut.of_below hbB).trans h3, h4⟩)
                  have HK0 := Lib.hid (show ∀ k, k < wr.heap.size → Imm B0 wr k → some k ≠ vk.ownBlock → wr.drew.heap[k]? = wr.heap[k]? from fun _ _ _ _ => rfl)
                  have hwr : IntKind.i64.wrap ((i : Int) + 1) = (i : Int) + 1 := by
                    have h60 : (i : Int) < 60 := by omega
                    have h0 : (0 : Int) ≤ (i : Int) := by omega
                    generalize (i : Int) = z at *
                    simp [IntKind.wrap, IntKind.bits, IntKind.signed]
                    omega
                  go_wp2_with fail
                  have hS0 := HSX.out wr.drew HK0.out
                  refine wp_region_L (S := fun W => W.cell? ⟨b6, 0, none⟩ = some (.func (Fn.func 39) #[] #[.pointer (some ⟨b2, 0, none⟩), .pointer (some ⟨b3, 0, none⟩), .pointer (some ⟨b4, 0, none⟩), .pointer (some ⟨b5, 0, none⟩), .pointer (some ⟨b6, 0, none⟩)]) ∧ W.cell? ⟨w.heap.size, 0, none⟩ = some (.int .i64 f.op) ∧ W.cell? ⟨w.heap.size, 1, none⟩ = some (.string f.name) ∧ W.cell? ⟨w.heap.size, 2, none⟩ = some (.int .i64 f.cmp) ∧ W.cell? ⟨w.heap.size, 3, none⟩ = some (.int .i64 f.n) ∧ W.cell? ⟨w.heap.size, 4, none⟩ = some (.slice A f.kids.length c) ∧ W.cell? ⟨b4, 0, none⟩ = some (.slice (some ⟨bf, of, none⟩) fs.length cD) ∧ W.cell? ⟨bf, of + i * 4, none⟩ = some (.string x.name)) (T := []) (by kernel_rfl) hS0 (fun _ => ?_)
                  refine wpAnyL_pure (i := 0) (oi := _) (v := ?_) (some 81) rfl rfl (by kernel_rfl) (by kernel_rfl) (by kernel_rfl) (by kernel_rfl) (fun _ _ _ h => h) (fun _ => hS0) (Or.inl ⟨by rfl, ?_⟩) ?_
                  rotate_left
                  · intro W hSw; go_simp; try with_reducible rfl
                  try simp only [Act.put, List.setIfInBounds_toArray, List.set_cons_zero, List.set_cons_succ]
                  refine wpAnyL_pure (i := 3) (oi := _) (v := ?_) (some 84) rfl rfl (by kernel_rfl) (by kernel_rfl) (by kernel_rfl) (by kernel_rfl) (fun _ _ _ h => h) (fun _ => hS0) (Or.inl ⟨by rfl, ?_⟩) ?_
                  rotate_left
                  · intro W hSw; go_simp; try with_reducible rfl
                  try simp only [Act.put, List.setIfInBounds_toArray, List.set_cons_zero, List.set_cons_succ]
                  refine wpAnyL_pure (i := 5) (oi := _) (v := ?_) (some 86) rfl rfl (by kernel_rfl) (by kernel_rfl) (by kernel_rfl) (by kernel_rfl) (fun _ _ _ h => h) (fun _ => hS0) (Or.inl ⟨by rfl, ?_⟩) ?_
                  rotate_left
                  · intro W hSw; go_simp; try with_reducible rfl
                  try simp only [Act.put, List.setIfInBounds_toArray, List.set_cons_zero, List.set_cons_succ]
                  refine wpAnyL_pure (i := 9) (oi := _) (v := ?_) (some 90) rfl rfl (by kernel_rfl) (by kernel_rfl) (by kernel_rfl) (by kernel_rfl) (fun _ _ _ h => h) (fun _ => hS0) (Or.inl ⟨by rfl, ?_⟩) ?_
                  rotate_left
                  · intro W hSw; go_simp; try with_reducible rfl
                  try simp only [Act.put, List.setIfInBounds_toArray, List.set_cons_zero, List.set_cons_succ]
                  refine wpAnyL_pure (i := 11) (oi := _) (v := ?_) (some 92) rfl rfl (by kernel_rfl) (by kernel_rfl) (by kernel_rfl) (by kernel_rfl) (fun _ _ _ h => h) (fun _ => hS0) (Or.inl ⟨by rfl, ?_⟩) ?_
                  rotate_left
                  · intro W hSw; go_simp; try with_reducible rfl
                  try simp only [Act.put, List.setIfInBounds_toArray, List.set_cons_zero, List.set_cons_succ]
                  refine wpAnyL_pure (i := 12) (oi := _) (v := ?_) (some 93) rfl rfl (by kernel_rfl) (by kernel_rfl) (by kernel_rfl) (by kernel_rfl) (fun _ _ _ h => h) (fun _ => hS0) (Or.inl ⟨by rfl, ?_⟩) ?_
                  rotate_left
                  · intro W hSw; go_simp; try with_reducible rfl
                  try simp only [Act.put, List.setIfInBounds_toArray, List.set_cons_zero, List.set_cons_succ]
                  refine wpAnyL_load (i := 1) (oi := _) (v := ?_) (some 82) rfl rfl (by kernel_rfl) (by kernel_rfl) (by kernel_rfl) (by kernel_rfl) (fun _ _ _ h => h) (fun _ => hS0) (by kernel_rfl) (by kernel_rfl) (Or.inl ⟨by rfl, ?_⟩) ?_
                  rotate_left
                  · intro W hSw; (try dsimp only at hSw); go_simp; try with_reducible rfl
                  try simp only [Act.put, List.setIfInBounds_toArray, List.set_cons_zero, List.set_cons_succ]
                  refine wpAnyL_load (i := 2) (oi := _) (v := ?_) (some 83) rfl rfl (by kernel_rfl) (by kernel_rfl) (by kernel_rfl) (by kernel_rfl) (fun _ _ _ h => h) (fun _ => hS0) (by kernel_rfl) (by kernel_rfl) (Or.inl ⟨by rfl, ?_⟩) ?_
                  rotate_left
                  · intro W hSw; (try dsimp only at hSw); go_simp; try with_reducible rfl
                  try simp only [Act.put, List.setIfInBounds_toArray, List.set_cons_zero, List.set_cons_succ]
                  refine wpAnyL_load (i := 4) (oi := _) (v := ?_) (some 85) rfl rfl (by kernel_rfl) (by kernel_rfl) (by kernel_rfl) (by kernel_rfl) (fun _ _ _ h => h) (fun _ => hS0) (by kernel_rfl) (by kernel_rfl) (Or.inl ⟨by rfl, ?_⟩) ?_
                  rotate_left
                  · intro W hSw; (try dsimp only at hSw); go_simp; try with_reducible rfl
                  try simp only [Act.put, List.setIfInBounds_toArray, List.set_cons_zero, List.set_cons_succ]
                  refine wpAnyL_pure (i := 6) (oi := _) (v := ?_) (some 87) rfl rfl (by kernel_rfl) (by kernel_rfl) (by kernel_rfl) (by kernel_rfl) (fun _ _ _ h => h) (fun _ => hS0) (Or.inl ⟨by rfl, ?_⟩) ?_
                  rotate_left
                  · intro W hSw; go_simp; try with_reducible rfl
                  try simp only [Act.put, List.setIfInBounds_toArray, List.set_cons_zero, List.set_cons_succ]
                  refine wpAnyL_pure (i := 7) (oi := _) (v := ?_) (some 88) rfl rfl (by kernel_rfl) (by kernel_rfl) (by kernel_rfl) (by kernel_rfl) (fun _ _ _ h => h) (fun _ => hS0) (Or.inl ⟨by rfl, ?_⟩) ?_
                  rotate_left
                  · intro W hSw; go_simp; try with_reducible rfl
                  try simp only [Act.put, List.setIfInBounds_toArray, List.set_cons_zero, List.set_cons_succ]
                  refine wpAnyL_load (i := 8) (oi := _) (v := ?_) (some 89) rfl rfl (by kernel_rfl) (by kernel_rfl) (by kernel_rfl) (by kernel_rfl) (fun _ _ _ h => h) (fun _ => hS0) (by kernel_rfl) (by kernel_rfl) (Or.inl ⟨by rfl, ?_⟩) ?_
                  rotate_left
                  · intro W hSw; (try dsimp only at hSw); go_simp; try with_reducible rfl
                  try simp only [Act.put, List.setIfInBounds_toArray, List.set_cons_zero, List.set_cons_succ]
                  refine wpAnyL_ready (rs := [10]) (by kernel_rfl) (by simp) ?_
                  refine ReadyL.cons rfl (fun K hK => ?_) ReadyL.nil
                  go_simp
                  refine (given_any x.name v d (fun b => S b ∧ b < w.heap.size) wr.drew f A c HFRW.out hfmok).mono ?_
                  rintro e wB ⟨Ag, cg, rfl, hfg, hbB⟩
                  have HKB := Lib.hid (show ∀ k, k < wr.heap.size → Imm B0 wr k → some k ≠ vk.ownBlock → wB.heap[k]? = wr.heap[k]? from fun k hk _ _ => hbB.block k hk)
                  have HFG := Lib.hid hfg
                  have HBB := Lib.hid (show Below wr.heap.size wr wB from (Below.refl _ _).drew.trans hbB)
                  clear hfg hbB
                  refine hK.out _ _ (fun _ => HSX.out _ HKB.out) (fun _ => ?_)
                  clear hK K
                  try simp only [Act.put, List.setIfInBounds_toArray, List.set_cons_zero, List.set_cons_succ]
                  refine wpAnyL_ready (rs := [13]) (by kernel_rfl) (by simp) ?_
                  refine ReadyL.cons rfl (fun K hK => ?_) ReadyL.nil
                  go_simp
                  refine (HCALL.out wB Ag cg HBB.out HFG.out).mono ?_
                  rintro e wC ⟨rfl, hgC, huC, hiC⟩
                  have HGC := Lib.hid hgC
                  have HUC := Lib.hid huC
                  have HIC := Lib.hid hiC
                  have HKC := Lib.hid (show ∀ k, k < wr.heap.size → Imm B0 wr k → some k ≠ vk.ownBlock → wC.heap[k]? = wr.heap[k]? from fun k hk hi _ => HUC.out.block k hk hi)
                  clear hgC huC hiC
                  refine hK.out _ _ (fun _ => HSX.out _ HKC.out) (fun _ => ?_)
                  clear hK K
                  try simp only [Act.put, List.setIfInBounds_toArray, List.set_cons_zero, List.set_cons_succ]
                  generalize hyy : (growP rest ((i : Int) + 1) (given x.name v f) sj) = yy at *
                  obtain ⟨y, s2⟩ := yy
                  simp only at HGC HIC
                  have HYY := Lib.hid hyy
                  clear hyy
                  have HKD := Lib.hid (show ∀ k, k < wr.heap.size → Imm B0 wr k → some k ≠ vk.ownBlock → (wC.alloc (.cells #[.int .i64 y] 3)).heap[k]? = wr.heap[k]? from fun k hk hi hn => (Below.heap_alloc _ _ _ (Nat.lt_of_lt_of_le hk HUC.out.size)).trans (HKC.out k hk hi hn))
                  have HOC := Lib.hid (show OwnAt (wC.alloc (.cells #[.int .i64 y] 3)) w7.heap.size 3 1 IntR vk kj from HOK4.out.keep (fun k hk hlt => (Below.heap_alloc _ _ _ (Nat.lt_of_lt_of_le hlt HUC.out.size)).trans (HUC.out.block k hlt (.inr (by obtain ⟨_, _, c9, h9⟩ := own_lt HOK4.out hk; exact ⟨c9, 3, _, h9, rfl⟩)))) (fun _ _ _ h => h))
                  have hzC := HUC.out.size
                  have hzW := HMW.out.size
                  refine wpAnyL_ready (rs := [14]) (by kernel_rfl) (by simp) ?_
                  refine ReadyL.cons rfl (fun K hK => ?_) ReadyL.nil
                  go_simp
                  refine hK.out _ _ (fun _ => HSX.out _ HKD.out) (fun _ => ?_)
                  clear hK K
                  try simp only [Act.put, List.setIfInBounds_toArray, List.set_cons_zero, List.set_cons_succ]
                  refine wpAnyL_ready (rs := [15]) (by kernel_rfl) (by simp) ?_
                  refine ReadyL.cons rfl (fun K hK => ?_) ReadyL.nil
                  refine step_row rfl (.tmp 81) (.tmp 95) rfl w7.heap.size vk kj (.inl HOC.out) rfl wC.heap.size rfl y (new_ wC _) HIC.out (by omega) (by simp; omega) ?_
                  intro gE cE wE hoE hgE hatE hnE hltE
                  have HOE := Lib.hid hoE
                  have HGE := Lib.hid hgE
                  have HATE := Lib.hid hatE
                  have HKE := Lib.hid (show ∀ k, k < wr.heap.size → Imm B0 wr k → some k ≠ vk.ownBlock → wE.heap[k]? = wr.heap[k]? from fun k hk hi hn => (HGE.out.block k (by simp; omega) hn).trans (HKD.out k hk hi hn))
                  clear hoE hgE hatE hnE
                  refine hK.out _ _ (fun _ => HSX.out _ HKE.out) (fun _ => ?_)
                  clear hK K
                  try simp only [Act.put, List.setIfInBounds_toArray]
                  refine wpAnyL_pure (i := 16) (oi := _) (v := ?_) (some 15) rfl rfl (by kernel_rfl) (by kernel_rfl) (by kernel_rfl) (by kernel_rfl) (fun _ _ _ h => h) (fun _ => HSX.out _ HKE.out) (Or.inl ⟨by rfl, ?_⟩) ?_
                  rotate_left
                  · intro W hSw; go_simp; try with_reducible rfl
                  try simp only [Act.put]
                  refine wpAnyL_done (by kernel_rfl) ?_ _
                  go_wp2_with fail
                  go_roundw
                  case rel =>
                    have hkj : kj.length = j := by omega
                    refine ⟨j + 1, .slice (some ⟨gE, 0, none⟩) (j + 1) cE, by omega, by go_num, rfl, Lib.hid ?_, Lib.hid ?_, Lib.hid ?_⟩
                    · have h1 := HOE.out
                      rw [hkj] at h1
                      rw [HQG.out, HQ2.out]
                      exact h1
                    · rw [HQG.out, HQ2.out]
                      have g1 := (HGC.out.wide.below (box_below wC (.cells #[.int .i64 y] 3))).grown HOC.out HGE.out (fun b hb => .inl (.inr hb))
                      refine g1.mono (fun b hb => hb.elim (fun h => .inl (.inl h)) (fun h => ?_))
                      simp [Value.ownBlock] at h
                      subst h
                      rcases HATE.out with h2 | h2
                      · exact .inl (.inr h2)
                      · exact .inr (by simp at h2; omega)
                    · have hMC := (HMW.out.trans HUC.out).trans (Mut.of_below (box_below wC (.cells #[.int .i64 y] 3)))
                      exact ⟨HGE.out.os.trans hMC.os, HGE.out.tape.trans hMC.tape, HGE.out.output.trans hMC.output, Nat.le_trans hMC.size HGE.out.size, fun k hk hi => (HGE.out.block k (Nat.lt_of_lt_of_le hk hMC.size) (fun e => by have := (own_lt HOK4.out e.symm).2.1; omega)).trans (hMC.block k hk hi)⟩
                  case measure => simp [intOf]; omega
                · obtain rfl : j = L.length := by omega
                  have hkp : 0 < L.length := HLP.out
                  have hko := HOK4.out
                  have hgo := HG7.out
                  rw [List.take_length] at hko hgo
                  have hgl := HGL.out L
                  have hgz := HGK.out L
                  generalize growKids rest i x f L { s with full := false } = q at *
                  obtain ⟨kj, sj⟩ := q
                  simp only at hko hgo hgl hgz HV2
                  have HGF := Lib.hid (hgo.mono (Y := X) (fun b hb => .inl hb))
                  obtain ⟨Sj, hMj, hSX⟩ := HGF.out.tb
                  have hlj := size_len sj.l
                  obtain ⟨Ak, ck, rfl⟩ := hko.shape
                  have HKO := Lib.hid hko
                  have HMJ := Lib.hid hMj
                  have HSXJ := Lib.hid hSX
                  clear hko hgo hMj hSX HOK4 HG7
                  obtain ⟨m0, m1⟩ := one_ HGF.out.m
                  have lm := blt_ HGF.out.m
                  have hiI2 : I64 (i : Int) := by unfold I64; omega
                  have HGL2 := Lib.hid hgl
                  clear hgl
                  go_wp2_with fail
                  refine (inner_any Sj (fun _ => True) (fun _ => True) B0 bm sj.l i L kj A7 Ak c7 ck wr hiI2 (by have := HGL2.out; omega) HGL2.out.symm (by have := HGL2.out; omega) (by omega) HMJ.out (HO8.out.slice (fun _ _ _ _ => trivial) (by unfold N44; omega) (fun _ _ _ h => h)) (HKO.out.slice (fun _ _ _ _ => trivial) (by have := HGL2.out; unfold N44; omega) (fun _ _ _ h => h)) (HT.out.on (HMWA.out.below hB)).here).mono ?_
                  rintro e w9 ⟨rfl, S9, hm9, hs9, hu9, hk9⟩
                  have HG9 := Lib.hid (HGF.out.step hm9 (fun b hb hx => (hs9 b hb).elim (fun h => HSXJ.out b h hx) (fun h => by have h1 := HXW.out b hx; have h2 := HMWA.out.size; omega)) hk9)
                  have HU9 := Lib.hid (HMWA.out.trans hu9)
                  have HIV := Lib.hid (innerK_i64 (l := sj.l) (i := (i : Int)) (st := L) (by omega) (own_i64 HKO.out))
                  have HPUT := Lib.hid (map_mput HG9.out.map hks (innerK sj.l i L kj).1)
                  have HMV := Lib.hid (mput_vals (a := key) HG9.out.vals HIV.out)
                  obtain ⟨n0, n1⟩ := one_ HG9.out.dn
                  have ln := blt_ HG9.out.dn
                  clear hm9 hs9 hu9 hk9
                  go_wp2_with (at_mapUpdate; refine put_op rfl 65 (.tmp 103) (.tmp 104) (.tmp 105) rfl rfl rfl rfl HPUT.out ?_)
                  intro w10 hmap hgr
                  have HF := Lib.hid (HG9.out.put hmap hgr HMV.out)
                  clear hmap hgr
                  go_wp2_with fail
                  go_ret
                  exact ⟨by rw [HV2.out]; rfl, by rw [HV2.out]; exact HF.out.1, HU9.out.trans HF.out.2, by rw [HV2.out]; exact HIV.out⟩
end Go.Proofs.YtfajbcjcigajfaaGreatDoor
