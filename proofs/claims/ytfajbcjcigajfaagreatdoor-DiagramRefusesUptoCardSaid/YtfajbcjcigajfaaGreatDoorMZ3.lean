/- Part of the proof of a law of customhouselaw26: the texts Z3. -/
import Derived.Test.YtfajbcjcigajfaaGreatDoorCards
import Derived.Test.YtfajbcjcigajfaaGreatDoorTie
import Derived.WalkKit
import Derived.ProofKit
import Derived.OpenShut
import Derived.Carry
import Derived.Deep.DeepHandedRow
import Derived.Deep.DeepWitnessRowRef
import Derived.Lib.LaidTab
import Derived.Test.YtfajbcjcigajfaaGreatDoorMD1D2D3
import Derived.Test.YtfajbcjcigajfaaGreatDoorMG1G2
import Derived.Test.YtfajbcjcigajfaaGreatDoorMZ1
/- What all laws of this seat share at the door: the listed variables, the readings of the arguments, the witness's world. -/
namespace Go.Proofs.YtfajbcjcigajfaaGreatDoor
open Go.ChangeShapes Go.WideShapes Go.ChangeAt Go.RowKit

theorem own : ownKnob Tryz.prog.godebug = none := by kernel_rfl
theorem laidOut : laidOutB Tryz.prog = true := by kernel_rfl
/-- What the row's list gives: the table of the powers of ten. -/
theorem tab_of {W : World} (h : laidMetH Tryz.prog Rows.diagramMeansUptoRow.laid W) : Tab W := by
  obtain ⟨ps, ⟨_, _, _, _, _, q1, _, _, _, _, ⟨_, _, _, _, _, q2, _, _, _, _, ⟨g', t', cs, fuel, p, q, hg', ht', hvar, hd, _, _⟩, _⟩, _⟩, _⟩ := h
  obtain rfl := Option.some.inj ((show Tryz.prog.globalNamed "internal/strconv.uint64pow10" = some 0 by kernel_rfl).symm.trans hg')
  obtain rfl := Option.some.inj ((show (Tryz.prog.globals[0]?).map (·.type) = some 192 by kernel_rfl).symm.trans ht')
  unfold Tab Lib.TabIs
  rw [hvar, ← Lib.cells_of_tab (k := .u64) (zs := Lib.pow10Tab) Tryz.underlying192 Tryz.underlying169 (by kernel_rfl) (by kernel_rfl) hd]
/-- A world for the witness: the settled one, the listed variables holding what their initialisers lay. -/
noncomputable def laidWorld (os : Os) : World :=
  let N := (World.settled Tryz.prog os).heap.size
  let w0 := World.holding Tryz.prog os ⟨#[.cells #[.string ⟨#[118, 97, 108, 117, 101, 32, 111, 117, 116, 32, 111, 102, 32, 114, 97, 110, 103, 101]⟩] 229, .cells #[.string ⟨#[105, 110, 118, 97, 108, 105, 100, 32, 115, 121, 110, 116, 97, 120]⟩] 229], #[], []⟩
  let put (h : Array Obj) (g : Nat) (cs : Array Value) : Array Obj := h.modify g fun
    | .cells _ t frozen => .cells cs t frozen
    | o => o
  let h0 := put w0.heap 0 (Lib.pow10Tab.map (Value.int .u64)).toArray
  let h1 := put h0 1 (#[0, 1, 28, 2, 29, 14, 24, 3, 30, 22, 20, 15, 25, 17, 4, 8, 31, 27, 13, 23, 21, 19, 16, 7, 26, 12, 18, 6, 11, 5, 10, 9].map (Value.int .u8))
  let h2 := put h1 2 (#[0, 1, 56, 2, 57, 49, 28, 3, 61, 58, 42, 50, 38, 29, 17, 4, 62, 47, 59, 36, 45, 43, 51, 22, 53, 39, 33, 30, 24, 18, 12, 5, 63, 55, 48, 27, 60, 41, 37, 16, 46, 35, 44, 21, 52, 32, 23, 11, 54, 26, 40, 15, 34, 20, 31, 10, 25, 14, 19, 9, 13, 8, 7, 6].map (Value.int .u8))
  let h3 := put h2 4 #[.iface 227 (.pointer (some ⟨N + 1, 0, none⟩))]
  let h4 := put h3 5 #[.iface 227 (.pointer (some ⟨N, 0, none⟩))]
  { w0 with heap := h4 }
theorem laid_met (os : Os) (args : Array Value) : laidMet Tryz.prog Rows.diagramMeansUptoRow.laid ((laidWorld os).forCall (fun _ _ => 0) ⟨#[], args, []⟩).memory :=
  laidMet_of_run' 8 (by kernel_rfl) (by kernel_rfl)
set_option maxRecDepth 100000 in
/-- A formula that came in. -/
theorem arg_fm {H : Type} {enc : TypeId × Value → H} {W : World} {base : Nat} {v : Value} {d : DataW H} {p : List MemPlace} (hv : Value.okWide Tryz.prog W .any base 24 v) (h : DataW.Trod enc Tryz.prog W 0 (fun _ => true) true 24 v d p) (hb : Rows.uptoBulk d ≤ 1048576) :
    ∃ (n : Nat) (f : Fm) (A : Option Addr) (c : Nat), v = fmV f A c ∧ FmR (fun _ => True) W n f (fv f A c) := by
  obtain ⟨cs, rfl, _⟩ := okWide_struct Tryz.underlying24 hv
  obtain ⟨fuel, hf⟩ := h
  obtain ⟨f, hR⟩ := read_fm fuel _ (d, p) hf hb
  obtain ⟨A, c, he⟩ := fm_form hR
  have hcs : cs.toList = fv f A c := he
  refine ⟨fuel + 1, f, A, c, ?_, by rw [he] at hR; exact hR⟩
  have : cs = (fv f A c).toArray := by rw [← hcs]
  rw [this]; rfl
set_option maxRecDepth 100000 in
/-- A domain that came in. -/
theorem arg_dom {H : Type} {enc : TypeId × Value → H} {W : World} {base : Nat} {v : Value} {d : DataW H} {p : List MemPlace} (hv : Value.okWide Tryz.prog W .any base 27 v) (h : DataW.Trod enc Tryz.prog W 0 (fun _ => true) true 27 v d p) (hb : Rows.uptoBulk d ≤ 1048576) :
    ∃ (vd : Value) (fs : List Fc), v = .agg #[vd] ∧ FcsAt (fun _ => True) W vd fs := by
  obtain ⟨cs, rfl, _⟩ := okWide_struct Tryz.underlying27 hv
  obtain ⟨fuel, hf⟩ := h
  obtain ⟨xs, m, _, hx, hl, hxs, hfs⟩ := DataW.trod_struct Tryz.underlying27 hf
  rw [show Tryz.prog.cellsOf 27 = 1 by kernel_rfl] at hl
  simp only [Prod.mk.injEq] at hx
  obtain ⟨rfl, rfl⟩ := hx
  have hcl : cs.toList.length = 1 := hl
  match xs, hxs with
  | [x0], _ =>
    have h0 := hfs 0 _ rfl
    have hb0 : Rows.uptoBulk x0.1 ≤ 1048576 := part_bulk (xs := [x0]) (i := 0) rfl hb
    obtain ⟨c0, hc0⟩ := List.length_eq_one_iff.1 hcl
    have h0' : DataW.trod enc Tryz.prog W 0 (fun _ => true) true m 25 [c0] = some x0 := by
      have k25 : Tryz.prog.cellsOf 25 = 1 := by kernel_rfl
      simpa [k25, Value.cells, hc0] using h0
    obtain ⟨vd, fs, e, hfc, _⟩ := read_fcs h0' hb0
    simp only [List.cons.injEq, and_true] at e
    subst e
    refine ⟨c0, fs, ?_, hfc⟩
    congr 1
    exact Array.ext' hc0
set_option maxRecDepth 100000 in
/-- A diagram that came in. -/
theorem arg_dia {H : Type} {enc : TypeId × Value → H} {W : World} {base : Nat} {v : Value} {d : DataW H} {p : List MemPlace} (hv : Value.okWide Tryz.prog W .any base 34 v) (h : DataW.Trod enc Tryz.prog W 0 (fun _ => true) true 34 v d p) (hb : Rows.uptoBulk d ≤ 1048576) :
    ∃ (vd : Value) (g : List Nd), v = .agg #[vd] ∧ NdsAt (fun _ => True) W vd g ∧ g.length ≤ 1048576 := by
  obtain ⟨cs, rfl, _⟩ := okWide_struct Tryz.underlying34 hv
  obtain ⟨fuel, hf⟩ := h
  obtain ⟨xs, m, _, hx, hl, hxs, hfs⟩ := DataW.trod_struct Tryz.underlying34 hf
  rw [show Tryz.prog.cellsOf 34 = 1 by kernel_rfl] at hl
  simp only [Prod.mk.injEq] at hx
  obtain ⟨rfl, rfl⟩ := hx
  have hcl : cs.toList.length = 1 := hl
  match xs, hxs with
  | [x0], _ =>
    have h0 := hfs 0 _ rfl
    have hb0 : Rows.uptoBulk x0.1 ≤ 1048576 := part_bulk (xs := [x0]) (i := 0) rfl hb
    obtain ⟨c0, hc0⟩ := List.length_eq_one_iff.1 hcl
    have h0' : DataW.trod enc Tryz.prog W 0 (fun _ => true) true m 32 [c0] = some x0 := by
      have k32 : Tryz.prog.cellsOf 32 = 1 := by kernel_rfl
      simpa [k32, Value.cells, hc0] using h0
    obtain ⟨vd, g, e, hg, hgl⟩ := read_nds h0' hb0
    simp only [List.cons.injEq, and_true] at e
    subst e
    refine ⟨c0, g, ?_, SliceAt.keep hg (Nat.le_refl _) (fun _ _ _ => rfl) (fun _ _ h => h) (fun x _ cs hx => hx.1), hgl⟩
    congr 1
    exact Array.ext' hc0
set_option maxRecDepth 100000 in
/-- A case that came in. -/
theorem arg_case {H : Type} {enc : TypeId × Value → H} {W : World} {base : Nat} {v : Value} {d : DataW H} {p : List MemPlace} (hv : Value.okWide Tryz.prog W .any base 29 v) (h : DataW.Trod enc Tryz.prog W 0 (fun _ => true) true 29 v d p) (hb : Rows.uptoBulk d ≤ 1048576) :
    ∃ cs : List Int, IntsAt (fun _ => True) W v cs := by
  obtain ⟨a, len, cap, rfl⟩ := okWide_slice Tryz.underlying29 hv
  obtain ⟨fuel, hf⟩ := h
  obtain ⟨v', xs, e, hi, _⟩ := read_ints Tryz.underlying29 hf hb
  simp [Value.cells] at e
  subst e
  exact ⟨xs, hi⟩
end Go.Proofs.YtfajbcjcigajfaaGreatDoor
