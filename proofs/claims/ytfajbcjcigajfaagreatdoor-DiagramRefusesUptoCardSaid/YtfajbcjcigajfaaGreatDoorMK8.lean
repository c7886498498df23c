/- Part of the proof of a law of customhouselaw26: the texts K8. -/
import Derived.Test.YtfajbcjcigajfaaGreatDoorMK5
import Derived.Test.YtfajbcjcigajfaaGreatDoorMK6K7
namespace Go.Proofs.YtfajbcjcigajfaaGreatDoor
open Go.RowKit

/-- The values of a fact from which on a formula may change. -/
def startsL (x : Fc) (f : Fm) : List Int := Lib.compact (((x.lo :: cutsF x.name f).mergeSort fun a b => decide (a ≤ b)).filter fun n => !outB x n)
theorem alk (W : World) (o : Obj) {k : Nat} (hk : W.heap.size = k) : (W.alloc o).heap[k]? = some o := hk ▸ new_ W o
theorem RowOut.at {B : Nat} {w w' : World} {v v' : Value} {l l' : List Int} (h : RowOut B w v v' l' w') (ho : OwnAt w B 3 1 IntR v l) {k t : Nat} {c : Array Value} {fr : Nat × Nat} (hb : w.heap[k]? = some (.cells c t fr)) (ht : t ≠ 3) : w'.heap[k]? = some (.cells c t fr) :=
  (h.2.2.block k (blt_ hb) (ne_row ho hb ht)).trans hb
theorem chg_below {B : Nat} {w a b : World} {T : Nat → Prop} (hB : B ≤ w.heap.size) (h : Below B w a) (hc : Chg T a b) (hT : ∀ i, T i → B ≤ i) : Below B w b :=
  ⟨hc.os.trans h.os, hc.tape.trans h.tape, hc.output.trans h.output, Nat.le_trans h.size hc.size, fun k hk => by
    have := h.size
    exact (hc.block k (by omega) (fun ht => by have := hT k ht; omega)).trans (h.block k hk)⟩
theorem Rows_one {x : Int} (h : I64 x) : Rows_ IntR 1 [.int .i64 x] [x] := by
  have := (Rows_.nil IntR 1).snoc (cs := [.int .i64 x]) (x := x) rfl ⟨rfl, h⟩
  simpa using this
set_option maxRecDepth 100000 in
set_option maxHeartbeats 2000000 in
theorem starts_any (d : Nat) (S : Nat → Prop) (f : Fm) (A : Option Addr) (c : Nat) (x : Fc) (w : World) (h : FmR S w d f (fv f A c)) (hok : AllF (fun g => g.op = 3 → 0 ≤ g.n ∧ g.n ≤ 1000000) f) (hlo : I64 x.lo) (hlen : (cutsF x.name f).length ≤ 900000) :
    Calls Tryz.prog 44 #[fmV f A c, .agg #[.string x.name, .int .i64 x.kind, .int .i64 x.lo, .int .i64 x.hi]] w fun e w' => ∃ v', e = .returned v' ∧ OwnAt w' w.heap.size 3 1 IntR v' (startsL x f) ∧ Below w.heap.size w w' := by
  have HF := Lib.hid h
  have HOK := Lib.hid hok
  have HLO := Lib.hid hlo
  clear h hok hlo
  go_enter Tryz.func44, Tryz.ntmps44
  go_wp2_with fail
  have hl0 : ∀ k, k < w.heap.size → k ≠ w.heap.size + 1 + 1 + 1 := fun k hk => by omega
  have HB0 := Lib.hid (show Below w.heap.size w (((((w.alloc (.cells #[.int .i64 f.op, .string f.name, .int .i64 f.cmp, .int .i64 f.n, .slice A f.kids.length c] 24)).alloc (.cells #[.string x.name, .int .i64 x.kind, .int .i64 x.lo, .int .i64 x.hi] 82)).alloc (.cells #[.int .i64 x.lo] 3)).alloc (.cells #[.slice (some ⟨w.heap.size + 1 + 1, 0, none⟩) 1 1] 28)).alloc (.cells #[.func (Fn.func 91) #[] #[.pointer (some ⟨w.heap.size + 1, 0, none⟩), .pointer (some ⟨w.heap.size + 1 + 1 + 1, 0, none⟩), .pointer (some ⟨w.heap.size + 1 + 1 + 1 + 1, 0, none⟩)]] 130)) from
    (((((Below.refl _ _).alloc (Nat.le_refl _) _).alloc (by simp) _).alloc (by simp; omega) _).alloc (by simp; omega) _).alloc (by simp; omega) _)
  refine (gather_any w.heap.size (w.heap.size + 1) (w.heap.size + 1 + 1 + 1) (w.heap.size + 1 + 1 + 1 + 1) x d (fun b => S b ∧ b < w.heap.size) f A c (.slice (some ⟨w.heap.size + 1 + 1, 0, none⟩) 1 1) [x.lo] _ (HF.out.keep HB0.out.size (Agree.of_below HB0.out) (fun b hb hs => ⟨hs, hb⟩)) (fun k hk => ⟨hk.2, hl0 k hk.2⟩) HOK.out ⟨old_ (old_ (old_ (alk _ _ (by simp)))), old_ (alk _ _ (by simp)), alk _ _ (by simp), ⟨[.int .i64 x.lo], ⟨rfl, .inr ⟨w.heap.size + 1 + 1, 1, _, rfl, by omega, old_ (old_ (alk _ _ (by simp))), Nat.le_refl _, by decide, rfl, rfl⟩⟩, Rows_one HLO.out⟩⟩ HB0.out.size (by simp; omega)).mono ?_
  rintro e w5 ⟨rfl, v5, hst5, hc5⟩
  have hb5 : Below w.heap.size w w5 := ⟨hc5.os.trans HB0.out.os, hc5.tape.trans HB0.out.tape, hc5.output.trans HB0.out.output, Nat.le_trans HB0.out.size hc5.size, fun k hk => (hc5.block k (Nat.lt_of_lt_of_le hk HB0.out.size) (fun ht => by rcases ht with h | h <;> omega)).trans (HB0.out.block k hk)⟩
  have HS5 := Lib.hid hst5
  have HB5 := Lib.hid hb5
  clear hst5 hc5 hb5
  obtain ⟨f0, f1⟩ := one_ HS5.out.out
  have lf := blt_ HS5.out.out
  have HL := Lib.hid (show ([x.lo] ++ cutsF x.name f).length ≤ 100000000 by simp; omega)
  go_wp2_with fail
  refine (sort_own w.heap.size w5 v5 _ HS5.out.row HL.out).mono ?_
  rintro e w6 ⟨rfl, hr6⟩
  have HR6 := Lib.hid hr6
  have HF6 := Lib.hid (hr6.at HS5.out.row HS5.out.fact (by decide))
  have HO6 := Lib.hid (hr6.at HS5.out.row HS5.out.out (by decide))
  clear hr6
  obtain ⟨g0, g1⟩ := one_ HO6.out
  have lg := blt_ HO6.out
  go_wp2_with fail
  have HL6 := Lib.hid (show (([x.lo] ++ cutsF x.name f).mergeSort fun a b => decide (a ≤ b)).length = ([x.lo] ++ cutsF x.name f).length from List.length_mergeSort _)
  refine (delete_own w.heap.size w6 v5 _ x (w.heap.size + 1) HR6.out.1 (by rw [HL6.out]; exact HL.out) (by rw [HL6.out]; simp) HF6.out).mono ?_
  rintro e w7 ⟨v7, rfl, hr7⟩
  have HL7 := Lib.hid (show ((([x.lo] ++ cutsF x.name f).mergeSort fun a b => decide (a ≤ b)).filter fun n => !outB x n).length ≤ 100000000 from Nat.le_trans (List.length_filter_le _ _) (by rw [HL6.out]; exact HL.out))
  have HST := Lib.hid (show startsL x f = Lib.compact ((([x.lo] ++ cutsF x.name f).mergeSort fun a b => decide (a ≤ b)).filter fun n => !outB x n) from rfl)
  generalize ((([x.lo] ++ cutsF x.name f).mergeSort fun a b => decide (a ≤ b)).filter fun n => !outB x n) = l3 at hr7 HL7 HST
  obtain ⟨A7, c7, rfl⟩ := hr7.1.shape
  have HR7 := Lib.hid hr7
  have HO7 := Lib.hid (hr7.at HR6.out.1 HO6.out (by decide))
  clear hr7
  obtain ⟨h0, h1⟩ := one_ HO7.out
  have lh := blt_ HO7.out
  go_wp2_with fail
  have hne := ne_row HR7.out.1 HO7.out (by decide)
  have HW8 := Lib.hid (show OwnAt (w7.setCell ⟨w.heap.size + 1 + 1 + 1, 0, none⟩ (.slice A7 l3.length c7)) w.heap.size 3 1 IntR (.slice A7 l3.length c7) l3 from HR7.out.1.keep (fun k hk _ => set_oth (by rintro rfl; exact hne hk.symm)) (fun _ _ _ h => h))
  refine (compact_own w.heap.size _ _ l3 HW8.out HL7.out).mono ?_
  rintro e w9 ⟨v9, rfl, hr9⟩
  have HR9 := Lib.hid hr9
  clear hr9
  go_wp2_with fail
  go_ret
  refine ⟨_, rfl, by rw [HST.out]; exact HR9.out.1, ?_⟩
  have b6 := chg_below (Nat.le_refl _) HB5.out HR6.out.2.2 (fun i hi => (row_type HS5.out.row hi.symm).1)
  have b7 := chg_below (Nat.le_refl _) b6 HR7.out.2.2 (fun i hi => (row_type HR6.out.1 hi.symm).1)
  have b8 := b7.setCell (p := ⟨w.heap.size + 1 + 1 + 1, 0, none⟩) (by simp; omega) (.slice A7 l3.length c7)
  exact chg_below (Nat.le_refl _) b8 HR9.out.2.2 (fun i hi => (row_type HW8.out hi.symm).1)
end Go.Proofs.YtfajbcjcigajfaaGreatDoor
