/- Part of the proof of a law of customhouselaw26: the texts Z1. -/
import Derived.Test.YtfajbcjcigajfaaGreatDoorRows
import Derived.Deep.Slices
import Derived.Test.YtfajbcjcigajfaaGreatDoorMA4
import Derived.Test.YtfajbcjcigajfaaGreatDoorMP1P2P3
/- What the arguments read as. -/
namespace Go.Proofs.YtfajbcjcigajfaaGreatDoor
open Go.Deep Go.RowKit

instance : Inhabited Fc := ⟨⟨⟨#[]⟩, 0, 0, 0⟩⟩
instance : Inhabited Fm := ⟨⟨0, ⟨#[]⟩, 0, 0, []⟩⟩
theorem bulk_one {H : Type} (d : DataW H) : 1 ≤ Rows.uptoBulk d := by
  cases d with
  | lit l => cases l <;> simp [Rows.uptoBulk]
  | nil => simp [Rows.uptoBulk]
  | ptr d => simp [Rows.uptoBulk]
  | slice elems spare => simp [Rows.uptoBulk]
  | agg parts => simp [Rows.uptoBulk]
  | iface t d => simp [Rows.uptoBulk]
  | map entries => simp [Rows.uptoBulk]
  | held h => simp [Rows.uptoBulk]
theorem bulk_part {H : Type} {d : DataW H} {l : List (DataW H)} (h : d ∈ l) : Rows.uptoBulk d ≤ Rows.uptoBulkAll l := by
  induction l with
  | nil => cases h
  | cons x r ih =>
    simp only [Rows.uptoBulkAll]
    cases List.mem_cons.1 h with
    | inl e => subst e; omega
    | inr e => have := ih e; omega
theorem bulk_len {H : Type} (l : List (DataW H)) : l.length ≤ Rows.uptoBulkAll l := by
  induction l with
  | nil => simp [Rows.uptoBulkAll]
  | cons x r ih => have := bulk_one x; simp only [Rows.uptoBulkAll, List.length_cons]; omega
theorem addr_add2 (b o i k : Nat) : ((⟨b, o, none⟩ : Addr).add i).add k = ⟨b, o + i + k, none⟩ := by
  unfold Addr.add
  by_cases hi : i = 0 <;> by_cases hk : k = 0 <;> simp [hi, hk]
section
variable {H : Type} {enc : TypeId × Value → H} {w : World} {sp : Nat → Bool} {hd : Bool}
/-- A slice that came in. -/
theorem read_row {t e sz : Nat} (ht : Tryz.prog.underlying t = some (.slice e)) (hsz : Tryz.prog.cellsOf e = sz) (hp : 0 < sz) {α : Type} [Inhabited α] {R : α → List Value → Prop} {fuel : Nat} {cs : List Value} {x : DataW H × List MemPlace}
    (h : DataW.trod enc Tryz.prog w 0 sp hd fuel t cs = some x) (hb : Rows.uptoBulk x.1 ≤ 1048576)
    (hel : ∀ n cs' y, fuel = n + 1 → DataW.trod enc Tryz.prog w 0 sp hd n e cs' = some y → Rows.uptoBulk y.1 ≤ 1048576 → ∃ a : α, R a cs') :
    ∃ v xs, cs = [v] ∧ SliceAt (fun _ => True) w sz R v xs ∧ xs.length ≤ 1048576 := by
  rcases DataW.trod_slice ht h with ⟨rfl, rfl⟩ | ⟨a, len, cap, elems, rest, n, hf, rfl, rfl, _, hl, _, hlen, hel', _, _⟩
  · exact ⟨_, [], rfl, SliceAt.nil _ _ _ _, Nat.zero_le _⟩
  · rw [hsz] at hel'
    simp only [Rows.uptoBulk] at hb
    have hlb := bulk_len (elems.map (·.1))
    rw [List.length_map, hlen] at hlb
    have hlen2 : len ≤ 1048576 := by omega
    have key : ∀ i, i < len → ∃ x : α, ∃ cs', cs'.length = sz ∧ R x cs' ∧ ∀ k v, cs'[k]? = some v → w.cell? ((a.add (i * sz)).add k) = some v := by
      intro i hi
      have h1 := hel' i hi
      rw [List.getElem?_eq_getElem (by omega)] at h1
      obtain ⟨cs', h2, h3⟩ := Option.bind_eq_some_iff.1 h1
      obtain ⟨_, hcl, hcc⟩ := World.cells?_some h2
      have hbe : Rows.uptoBulk (elems[i]'(by omega)).1 ≤ 1048576 := by
        have := bulk_part (l := elems.map (·.1)) (List.mem_map.2 ⟨_, List.getElem_mem (by omega : i < elems.length), rfl⟩)
        omega
      obtain ⟨x, hx⟩ := hel n cs' _ hf h3 hbe
      refine ⟨x, cs', hcl, hx, fun k v hv => ?_⟩
      have hk := (List.getElem?_eq_some_iff.1 hv).1
      rw [hcc k (by omega), hv]
    obtain ⟨f, hfn⟩ := choose_lt key
    refine ⟨_, (List.range len).map f, rfl, ⟨some a, cap, by simp, by simpa using hl, by simp only [List.length_map, List.length_range, N44]; omega, fun hp' => ?_⟩, by simpa using hlen2⟩
    have hp' : 0 < len := by simpa using hp'
    obtain ⟨cs0, hc0, _, hcc0⟩ := hfn 0 hp'
    have hcell : w.cell? a = some cs0[0] := by
      have := hcc0 0 cs0[0] (List.getElem?_eq_getElem (by omega))
      simpa [Addr.add] using this
    have hlt := World.block_lt_of_cell? w a hcell
    obtain ⟨b, o, spot⟩ := a
    have hs : spot = none := by
      cases spot with
      | none => rfl
      | some s =>
        unfold World.cell? at hcell
        split at hcell <;> simp at hcell
    subst hs
    refine ⟨b, o, rfl, trivial, hlt, fun j x hx => ?_⟩
    rw [List.getElem?_map] at hx
    obtain ⟨j', hj', rfl⟩ := Option.map_eq_some_iff.1 hx
    obtain ⟨hjl, e2⟩ := List.getElem?_eq_some_iff.1 hj'
    rw [List.getElem_range] at e2
    subst e2
    obtain ⟨cs', h1, h2, h3⟩ := hfn j (by simpa using hjl)
    exact ⟨cs', h1, h2, fun i v hv => by rw [← addr_add2]; exact h3 i v hv⟩
theorem read_int {n : Nat} {cs : List Value} {y : DataW H × List MemPlace} (h : DataW.trod enc Tryz.prog w 0 sp hd n 3 cs = some y) : ∃ x : Int, IntR x cs := by
  obtain ⟨x, rfl, _, hw⟩ := DataW.trod_int Tryz.underlying3 h
  refine ⟨x, rfl, ?_⟩
  have hm : IntKind.i64.min = -9223372036854775808 := by decide
  unfold I64
  simp [Lit.wf, hm] at hw
  omega
theorem read_str {n : Nat} {cs : List Value} {y : DataW H × List MemPlace} (h : DataW.trod enc Tryz.prog w 0 sp hd n 9 cs = some y) (hb : Rows.uptoBulk y.1 ≤ 1048576) : ∃ s : ByteArray, cs = [.string s] ∧ s.size ≤ 1048576 := by
  obtain ⟨s, rfl, rfl, _⟩ := DataW.trod_string Tryz.underlying9 h
  simp only [Rows.uptoBulk] at hb
  exact ⟨s, rfl, by rw [Array.length_toList] at hb; have : s.data.size = s.size := rfl; omega⟩
theorem read_ints {t : Nat} (ht : Tryz.prog.underlying t = some (.slice 3)) {fuel : Nat} {cs : List Value} {x : DataW H × List MemPlace} (h : DataW.trod enc Tryz.prog w 0 sp hd fuel t cs = some x) (hb : Rows.uptoBulk x.1 ≤ 1048576) :
    ∃ v xs, cs = [v] ∧ IntsAt (fun _ => True) w v xs ∧ xs.length ≤ 1048576 :=
  read_row ht (by kernel_rfl) (by decide) h hb (fun n cs' y _ hy _ => read_int hy)
theorem part_bulk {xs : List (DataW H × List MemPlace)} {i : Nat} {y : DataW H × List MemPlace} (h : xs[i]? = some y) (hb : Rows.uptoBulk (DataW.agg (xs.map (·.1))) ≤ 1048576) : Rows.uptoBulk y.1 ≤ 1048576 := by
  simp only [Rows.uptoBulk] at hb
  have := bulk_part (l := xs.map (·.1)) (List.mem_map.2 ⟨y, List.mem_of_getElem? h, rfl⟩)
  omega
set_option maxRecDepth 100000 in
theorem read_fc {n : Nat} {cs : List Value} {y : DataW H × List MemPlace} (h : DataW.trod enc Tryz.prog w 0 sp hd n 82 cs = some y) (hb : Rows.uptoBulk y.1 ≤ 1048576) : ∃ x : Fc, FcR x cs := by
  obtain ⟨xs, m, _, rfl, hl, hxs, hf⟩ := DataW.trod_struct Tryz.underlying82 h
  rw [show Tryz.prog.cellsOf 82 = 4 by kernel_rfl] at hl
  match cs, hl, xs, hxs with
  | [c0, c1, c2, c3], _, [x0, x1, x2, x3], _ =>
    have k3 : Tryz.prog.cellsOf 3 = 1 := by kernel_rfl
    have k9 : Tryz.prog.cellsOf 9 = 1 := by kernel_rfl
    have h0 : DataW.trod enc Tryz.prog w 0 sp hd m 9 [c0] = some x0 := by simpa [k3, k9] using hf 0 _ rfl
    have h1 : DataW.trod enc Tryz.prog w 0 sp hd m 3 [c1] = some x1 := by simpa [k3, k9] using hf 1 _ rfl
    have h2 : DataW.trod enc Tryz.prog w 0 sp hd m 3 [c2] = some x2 := by simpa [k3, k9] using hf 2 _ rfl
    have h3 : DataW.trod enc Tryz.prog w 0 sp hd m 3 [c3] = some x3 := by simpa [k3, k9] using hf 3 _ rfl
    obtain ⟨s, e0, hs⟩ := read_str h0 (part_bulk (i := 0) rfl hb)
    obtain ⟨a, e1, i1⟩ := read_int h1
    obtain ⟨b, e2, i2⟩ := read_int h2
    obtain ⟨c, e3, i3⟩ := read_int h3
    simp only [List.cons.injEq, and_true] at e0 e1 e2 e3
    subst e0 e1 e2 e3
    exact ⟨⟨s, a, b, c⟩, rfl, i1, i2, i3, by simp only; omega⟩
theorem read_fcs {fuel : Nat} {cs : List Value} {x : DataW H × List MemPlace} (h : DataW.trod enc Tryz.prog w 0 sp hd fuel 25 cs = some x) (hb : Rows.uptoBulk x.1 ≤ 1048576) :
    ∃ v xs, cs = [v] ∧ FcsAt (fun _ => True) w v xs ∧ xs.length ≤ 1048576 :=
  read_row Tryz.underlying25 (by kernel_rfl) (by decide) h hb (fun n cs' y _ hy hyb => read_fc hy hyb)
set_option maxRecDepth 100000 in
theorem read_nd {n : Nat} {cs : List Value} {y : DataW H × List MemPlace} (h : DataW.trod enc Tryz.prog w 0 sp hd n 55 cs = some y) (hb : Rows.uptoBulk y.1 ≤ 1048576) : ∃ x : Nd, NdR (fun _ => True) w x cs ∧ x.cuts.length ≤ 1048576 ∧ x.kids.length ≤ 1048576 := by
  obtain ⟨xs, m, _, rfl, hl, hxs, hf⟩ := DataW.trod_struct Tryz.underlying55 h
  rw [show Tryz.prog.cellsOf 55 = 4 by kernel_rfl] at hl
  match cs, hl, xs, hxs with
  | [c0, c1, c2, c3], _, [x0, x1, x2, x3], _ =>
    have k3 : Tryz.prog.cellsOf 3 = 1 := by kernel_rfl
    have k4 : Tryz.prog.cellsOf 4 = 1 := by kernel_rfl
    have k28 : Tryz.prog.cellsOf 28 = 1 := by kernel_rfl
    have h0 : DataW.trod enc Tryz.prog w 0 sp hd m 4 [c0] = some x0 := by simpa [k3, k4, k28] using hf 0 _ rfl
    have h1 : DataW.trod enc Tryz.prog w 0 sp hd m 3 [c1] = some x1 := by simpa [k3, k4, k28] using hf 1 _ rfl
    have h2 : DataW.trod enc Tryz.prog w 0 sp hd m 28 [c2] = some x2 := by simpa [k3, k4, k28] using hf 2 _ rfl
    have h3 : DataW.trod enc Tryz.prog w 0 sp hd m 28 [c3] = some x3 := by simpa [k3, k4, k28] using hf 3 _ rfl
    obtain ⟨b, e0, _⟩ := DataW.trod_bool Tryz.underlying4 h0
    obtain ⟨a, e1, i1⟩ := read_int h1
    obtain ⟨v2, l2, e2, i2, n2⟩ := read_ints Tryz.underlying28 h2 (part_bulk (i := 2) rfl hb)
    obtain ⟨v3, l3, e3, i3, n3⟩ := read_ints Tryz.underlying28 h3 (part_bulk (i := 3) rfl hb)
    simp only [List.cons.injEq, and_true] at e0 e1 e2 e3
    subst e0 e1 e2 e3
    exact ⟨⟨b, a, l2, l3⟩, ⟨_, _, rfl, i1, i2, i3⟩, n2, n3⟩
theorem read_nds {fuel : Nat} {cs : List Value} {x : DataW H × List MemPlace} (h : DataW.trod enc Tryz.prog w 0 sp hd fuel 32 cs = some x) (hb : Rows.uptoBulk x.1 ≤ 1048576) :
    ∃ v xs, cs = [v] ∧ SliceAt (fun _ => True) w 4 (fun (x : Nd) cs => NdR (fun _ => True) w x cs ∧ x.cuts.length ≤ 1048576 ∧ x.kids.length ≤ 1048576) v xs ∧ xs.length ≤ 1048576 :=
  read_row Tryz.underlying32 (by kernel_rfl) (by decide) h hb (fun n cs' y _ hy hyb => read_nd hy hyb)
set_option maxRecDepth 100000 in
theorem read_fm : ∀ (fuel : Nat) (cs : List Value) (x : DataW H × List MemPlace), DataW.trod enc Tryz.prog w 0 sp hd fuel 24 cs = some x → Rows.uptoBulk x.1 ≤ 1048576 → ∃ f : Fm, FmR (fun _ => True) w (fuel + 1) f cs := by
  intro fuel
  induction fuel using Nat.strongRecOn with
  | _ fuel ih =>
    intro cs x h hb
    obtain ⟨xs, m, hm, rfl, hl, hxs, hf⟩ := DataW.trod_struct Tryz.underlying24 h
    rw [show Tryz.prog.cellsOf 24 = 5 by kernel_rfl] at hl
    match cs, hl, xs, hxs with
    | [c0, c1, c2, c3, c4], _, [x0, x1, x2, x3, x4], _ =>
      have k3 : Tryz.prog.cellsOf 3 = 1 := by kernel_rfl
      have k9 : Tryz.prog.cellsOf 9 = 1 := by kernel_rfl
      have k22 : Tryz.prog.cellsOf 22 = 1 := by kernel_rfl
      have h0 : DataW.trod enc Tryz.prog w 0 sp hd m 3 [c0] = some x0 := by simpa [k3, k9, k22] using hf 0 _ rfl
      have h1 : DataW.trod enc Tryz.prog w 0 sp hd m 9 [c1] = some x1 := by simpa [k3, k9, k22] using hf 1 _ rfl
      have h2 : DataW.trod enc Tryz.prog w 0 sp hd m 3 [c2] = some x2 := by simpa [k3, k9, k22] using hf 2 _ rfl
      have h3 : DataW.trod enc Tryz.prog w 0 sp hd m 3 [c3] = some x3 := by simpa [k3, k9, k22] using hf 3 _ rfl
      have h4 : DataW.trod enc Tryz.prog w 0 sp hd m 22 [c4] = some x4 := by simpa [k3, k9, k22] using hf 4 _ rfl
      obtain ⟨a, e0, i0⟩ := read_int h0
      obtain ⟨s, e1, hs⟩ := read_str h1 (part_bulk (i := 1) rfl hb)
      obtain ⟨b, e2, i2⟩ := read_int h2
      obtain ⟨c, e3, i3⟩ := read_int h3
      obtain ⟨v4, ks, e4, i4, n4⟩ := read_row (R := FmR (fun _ => True) w fuel) Tryz.underlying22 (show Tryz.prog.cellsOf 24 = 5 by kernel_rfl) (by decide) h4 (part_bulk (i := 4) rfl hb) (fun n cs' y hn hy hyb => by
        obtain ⟨f, hf⟩ := ih n (by omega) cs' y hy hyb
        have hup : ∀ (j d : Nat), FmR (fun _ => True) w d f cs' → FmR (fun _ => True) w (d + j) f cs' := by
          intro j
          induction j with
          | zero => intro d h; exact h
          | succ j ihj => intro d h; exact (ihj d h).up
        obtain ⟨j, rfl⟩ : ∃ j, fuel = n + 1 + j := ⟨fuel - (n + 1), by omega⟩
        exact ⟨f, hup j _ hf⟩)
      simp only [List.cons.injEq, and_true] at e0 e1 e2 e3 e4
      subst e0 e1 e2 e3 e4
      exact ⟨⟨a, s, b, c, ks⟩, _, rfl, i0, i2, i3, by simp only; omega, i4⟩
end
end Go.Proofs.YtfajbcjcigajfaaGreatDoor
