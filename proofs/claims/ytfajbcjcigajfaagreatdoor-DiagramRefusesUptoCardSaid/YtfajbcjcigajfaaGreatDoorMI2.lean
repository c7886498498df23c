/- Part of the proof of a law of customhouselaw26: the texts I2. -/
import Derived.Deep.RegionLawGrows
import Derived.Deep.AppendLies
import Derived.Test.YtfajbcjcigajfaaGreatDoorMI1
import Derived.Test.YtfajbcjcigajfaaGreatDoorMK3K4
/- The node that inner builds: its two rows, and the step that appends to one of them. -/
namespace Go.Proofs.YtfajbcjcigajfaaGreatDoor
open Go.RowKit

/-- A row of one's own, or one number of somebody else's row, full. -/
def RowK (w : World) (B1 : Nat) (v : Value) (l : List Int) : Prop :=
  OwnAt w B1 3 1 IntR v l ∨ ∃ (b o : Nat) (k : Int), v = .slice (some ⟨b, o, none⟩) 1 1 ∧ l = [k] ∧ w.cell? ⟨b, o, none⟩ = some (.int .i64 k) ∧ b < B1 ∧ I64 k
theorem RowK.shape {w : World} {B1 : Nat} {v : Value} {l : List Int} (h : RowK w B1 v l) : ∃ A c, v = .slice A l.length c := by
  rcases h with h | ⟨b, o, k, rfl, rfl, _⟩
  · exact h.shape
  · exact ⟨_, _, rfl⟩
theorem RowK.lt {w : World} {B1 : Nat} {v : Value} {l : List Int} (h : RowK w B1 v l) {g : Nat} (hg : v.ownBlock = some g) : g < w.heap.size := by
  rcases h with ⟨cells, h, _⟩ | ⟨b, o, k, rfl, rfl, hc, _⟩
  · rcases h.2 with ⟨rfl, _⟩ | ⟨g', cap, cur, rfl, _, hh, _⟩
    · cases hg
    · simp [Value.ownBlock] at hg; subst hg; exact blt_ hh
  · simp [Value.ownBlock] at hg; subst hg; exact cell_lt hc
theorem RowK.keep {w w' : World} {B1 : Nat} {v : Value} {l : List Int} (h : RowK w B1 v l) (hg : ∀ g, v.ownBlock = some g → w'.heap[g]? = w.heap[g]?) : RowK w' B1 v l := by
  rcases h with h | ⟨b, o, k, rfl, rfl, hc, hb, hk⟩
  · exact .inl (h.keep (fun k hk _ => hg k hk) (fun _ _ _ h => h))
  · exact .inr ⟨b, o, k, rfl, rfl, (World.cell?_of_block (a := ⟨b, o, none⟩) (hg b rfl)).trans hc, hb, hk⟩
/-- The last number of a row that is not empty. -/
theorem RowK.last {w : World} {B1 : Nat} {v : Value} {l : List Int} (h : RowK w B1 v l) (hp : 0 < l.length) : ∃ b o c, v = .slice (some ⟨b, o, none⟩) l.length c ∧ b < w.heap.size ∧ l.length ≤ c ∧ w.cell? ⟨b, o + (l.length - 1), none⟩ = some (.int .i64 (l.getLastD 0)) := by
  rcases h with h | ⟨b, o, k, rfl, rfl, hc, _⟩
  · obtain ⟨g, c, rfl, hc, _, hlt, _, _, hx⟩ := h.at_ hp
    obtain ⟨cs, h1, ⟨rfl, _⟩, h3⟩ := hx (l.length - 1) l[l.length - 1] (List.getElem?_eq_getElem (by omega))
    have h4 := h3 0 _ rfl
    refine ⟨g, 0, c, rfl, hlt, hc, ?_⟩
    rw [Nat.mul_one, Nat.add_zero] at h4
    rw [Nat.zero_add, h4]
    congr 2
    rw [List.getLastD_eq_getLast?, List.getLast?_eq_getElem?, List.getElem?_eq_getElem (by omega)]
    rfl
  · exact ⟨b, o, 1, rfl, cell_lt hc, Nat.le_refl _, hc⟩
theorem info3' : (Tryz.prog.info? 3).map (fun i => (i.zero, i.size, i.bytes)) = some (some (.int .i64 0), 1, 8) := by kernel_rfl
section
variable {ops : Array Oper} {o : Oper} {a : Act} {K : Act → World → Prop} {Q : Exit → Act → World → Prop} {E : Prop}
/-- One number is appended to such a row, as one step of a region that draws its order. -/
theorem step_row {W : World} (hgd : o.guard = none) (s x : Operand) (ho : o.op = .call { callee := .builtin .append, args := #[s, x], argTypes := #[28, 28] })
    (B1 : Nat) (v : Value) (l : List Int) (hk : RowK W B1 v l) (hs : a.eval s = v) (bx : Nat) (hx : a.eval x = .slice (some ⟨bx, 0, none⟩) 1 1) (y : Int) (hy : W.heap[bx]? = some (.cells #[.int .i64 y] 3 (0, 0))) (hyI : I64 y) (hl : l.length ≤ 10000000) (hB : B1 ≤ W.heap.size)
    (h : ∀ g cap w', OwnAt w' B1 3 1 IntR (.slice (some ⟨g, 0, none⟩) (l.length + 1) cap) (l ++ [y]) → W.grownBy w' v.ownBlock → (v.ownBlock = some g ∨ W.heap.size ≤ g) → (∀ b, v.ownBlock = some b → b < B1 → w'.heap[b]? = W.heap[b]?) → g < w'.heap.size → K (a.put o.dst (.slice (some ⟨g, 0, none⟩) (l.length + 1) cap)) w') :
    if Region.wanted o (yielded ops a.tmps) = true then Oper.wp Tryz.prog o a W K Q else E := by
  obtain ⟨i3, hi3, hzz⟩ := Option.map_eq_some_iff.1 info3'
  simp only [Prod.mk.injEq] at hzz
  obtain ⟨hz0, hz11, hz2⟩ := hzz
  rcases hk with ⟨cells, hown, hr⟩ | ⟨b, of, k, rfl, rfl, hc, hb, hkI⟩
  · refine step_append_lies W hgd s x 28 ho B1 3 i3 _ 1 8 Tryz.underlying28 hi3 hz0 hz11 hz2 rfl (by decide) v l.length cells hs hown ⟨bx, 0, none⟩ 1 1 [.int .i64 y] hx rfl (World.news_of_block hy) (by simp [Value.oneCell']) (by decide) (by simp only [maxLen]; omega) (by omega) hB _ rfl ?_
    intro g cap w' h1 h2 h3 h4
    refine h g cap w' ⟨cells ++ [.int .i64 y], by simpa using h1, hr.snoc rfl ⟨rfl, hyI⟩⟩ h2 ?_ (fun b hb hlt => by
      rcases hown.2 with ⟨e, _⟩ | ⟨g', cap', cur, e, hb', _⟩
      · rw [e] at hb; cases hb
      · rw [e] at hb; simp [Value.ownBlock] at hb; omega) h4
    rcases h3 with h3 | h3
    · exact .inl h3
    · exact .inr (by omega)
  · refine step_append_grows (w := W) hgd s x 28 ho 3 i3 _ 1 8 Tryz.underlying28 hi3 hz0 hz11 hz2 rfl (by decide) (some ⟨b, of, none⟩) 1 1 [.int .i64 k] hs (by simp) rfl (fun b' hb' => by
      cases hb'
      intro j u hu
      have : j = 0 := by have := (List.getElem?_eq_some_iff.1 hu).1; simpa using this
      subst this
      have h0 : (⟨b, of, none⟩ : Addr).add 0 = ⟨b, of, none⟩ := by unfold Addr.add; split <;> simp_all
      rw [h0]
      simp at hu
      rw [hc, hu]) ⟨bx, 0, none⟩ 1 1 [.int .i64 y] hx rfl (World.news_of_block hy) (by simp [Value.oneCell']) (by decide) (by simp [maxLen]) (by simp) ?_
    intro v' w' h1 h2
    obtain ⟨g, cap, rfl, h3, h4⟩ := h1.form (by decide)
    refine h g cap w' ⟨[.int .i64 k] ++ [.int .i64 y], ⟨by simp, ?_⟩, ?_⟩ ⟨h2.os, h2.tape, h2.output, h2.size, fun j hj _ => h2.block j hj (by simp)⟩ (.inr h3) (fun b' hb' hlt' => h2.block b' (by simp [Value.ownBlock] at hb'; subst hb'; exact cell_lt hc) (by simp)) h4
    · rcases h1.2 with hn | ⟨g', cap', cur', e1, e2, e3⟩
      · exact .inl ⟨by simpa using hn.1, hn.2⟩
      · exact .inr ⟨g', cap', cur', by simpa using e1, by omega, e3⟩
    · have h5 := (((Rows_.nil IntR 1).snoc (cs := [.int .i64 k]) (x := k) rfl ⟨rfl, hkI⟩)).snoc (cs := [.int .i64 y]) (x := y) rfl ⟨rfl, hyI⟩
      simpa using h5
end
/-- The node in block bN while it is built: v2, v3 lie in it; vc, vk are its rows. -/
structure PS (w0 W : World) (bN B1 : Nat) (i : Int) (v2 v3 vc vk : Value) (cs ks : List Int) : Prop where
  below : Below w0.heap.size w0 W
  blk : W.heap[bN]? = some (.cells #[.bool false, .int .i64 i, v2, v3] 55 (0, 0))
  ownC : OwnAt W B1 3 1 IntR vc cs
  rowK : RowK W B1 vk ks
  ne : ∀ g, vc.ownBlock = some g → vk.ownBlock ≠ some g
  base : w0.heap.size ≤ B1 ∧ B1 ≤ W.heap.size
section
variable {w0 W W' : World} {bN B1 : Nat} {i : Int} {v2 v3 vc vk : Value} {cs ks : List Int}
theorem own_lt {B1 : Nat} {e : TypeId} {w : World} {v : Value} {l : List Int} (h : OwnAt w B1 e 1 IntR v l) {g : Nat} (hg : v.ownBlock = some g) : g < w.heap.size ∧ B1 ≤ g ∧ ∃ c, w.heap[g]? = some (.cells c e (0, 0)) := by
  obtain ⟨cells, h, _⟩ := h
  rcases h.2 with ⟨rfl, _⟩ | ⟨g', cap, cur, rfl, hb, hh, _⟩
  · cases hg
  · simp [Value.ownBlock] at hg; subst hg; exact ⟨blt_ hh, hb, _, hh⟩
theorem PS.drew (h : PS w0 W bN B1 i v2 v3 vc vk cs ks) : PS w0 W.drew bN B1 i v2 v3 vc vk cs ks :=
  ⟨h.below.drew, h.blk, h.ownC.keep (fun _ _ _ => rfl) (fun _ _ _ h => h), h.rowK.keep (fun _ _ => rfl), h.ne, h.base⟩
theorem PS.alloc (h : PS w0 W bN B1 i v2 v3 vc vk cs ks) (o : Obj) : PS w0 (W.alloc o) bN B1 i v2 v3 vc vk cs ks :=
  ⟨h.below.alloc h.below.size o, old_ h.blk, h.ownC.keep (fun k _ hk => Below.heap_alloc W o k hk) (fun _ _ _ h => h), h.rowK.keep (fun g hg => Below.heap_alloc W o g (h.rowK.lt hg)), h.ne, h.base.1, by simp; have := h.base.2; omega⟩
theorem PS.appC (h : PS w0 W bN B1 i v2 v3 vc vk cs ks) {g cap : Nat} {x : Int} (ho : OwnAt W' B1 3 1 IntR (.slice (some ⟨g, 0, none⟩) (cs.length + 1) cap) (cs ++ [x])) (hg : W.grownBy W' vc.ownBlock) (hat : vc.ownBlock = some g ∨ W.heap.size ≤ g) :
    PS w0 W' bN B1 i v2 v3 (.slice (some ⟨g, 0, none⟩) (cs.length + 1) cap) vk (cs ++ [x]) ks := by
  have hbn : some bN ≠ vc.ownBlock := fun e => by
    obtain ⟨_, _, c, hc⟩ := own_lt h.ownC e.symm
    rw [h.blk] at hc; injection hc with hc; injection hc with _ hc; cases hc
  refine ⟨?_, (hg.block bN (blt_ h.blk) hbn).trans h.blk, ho, h.rowK.keep (fun g' hg' => hg.block g' (h.rowK.lt hg') (fun e => h.ne g' e.symm hg')), ?_, h.base.1, Nat.le_trans h.base.2 hg.size⟩
  · refine ⟨hg.os.trans h.below.os, hg.tape.trans h.below.tape, hg.output.trans h.below.output, Nat.le_trans h.below.size hg.size, fun k hk => (hg.block k (Nat.lt_of_lt_of_le hk h.below.size) (fun e => ?_)).trans (h.below.block k hk)⟩
    have := (own_lt h.ownC e.symm).2.1
    have := h.base.1
    omega
  · intro g' hg' e
    simp [Value.ownBlock] at hg'
    subst hg'
    rcases hat with hat | hat
    · exact h.ne _ hat e
    · have := h.rowK.lt e; omega
theorem PS.appK (h : PS w0 W bN B1 i v2 v3 vc vk cs ks) {g cap : Nat} {x : Int} (ho : OwnAt W' B1 3 1 IntR (.slice (some ⟨g, 0, none⟩) (ks.length + 1) cap) (ks ++ [x])) (hg : W.grownBy W' vk.ownBlock) (hgn : ∀ b, vk.ownBlock = some b → b < B1 → W'.heap[b]? = W.heap[b]?) (hat : vk.ownBlock = some g ∨ W.heap.size ≤ g) :
    PS w0 W' bN B1 i v2 v3 vc (.slice (some ⟨g, 0, none⟩) (ks.length + 1) cap) cs (ks ++ [x]) := by
  have hany : ∀ k, k < W.heap.size → (∀ b, vk.ownBlock = some b → k = b → b < B1) → W'.heap[k]? = W.heap[k]? := by
    intro k hk hb
    by_cases e : some k = vk.ownBlock
    · exact hgn k e.symm (hb k e.symm rfl)
    · exact hg.block k hk e
  have hown : ∀ b, vk.ownBlock = some b → b < B1 ∨ ∃ c, W.heap[b]? = some (.cells c 3 (0, 0)) := by
    intro b hb
    rcases h.rowK with hr | ⟨b', o, k, rfl, rfl, hc, hlt, _⟩
    · exact .inr (own_lt hr hb).2.2
    · simp [Value.ownBlock] at hb; subst hb; exact .inl hlt
  have hbn : W'.heap[bN]? = W.heap[bN]? := hany bN (blt_ h.blk) (fun b hb e => by
    subst e
    rcases hown _ hb with h1 | ⟨c, hc⟩
    · exact h1
    · rw [h.blk] at hc; injection hc with hc; injection hc with _ hc; cases hc)
  refine ⟨?_, hbn.trans h.blk, h.ownC.keep (fun k hk hlt => hany k hlt (fun b hb e => absurd hb (by rw [← e]; exact h.ne k hk))) (fun _ _ _ h => h), .inl ho, ?_, h.base.1, Nat.le_trans h.base.2 hg.size⟩
  · refine ⟨hg.os.trans h.below.os, hg.tape.trans h.below.tape, hg.output.trans h.below.output, Nat.le_trans h.below.size hg.size, fun k hk => (hany k (Nat.lt_of_lt_of_le hk h.below.size) (fun b hb e => ?_)).trans (h.below.block k hk)⟩
    have := h.base.1
    omega
  · intro g' hg' e
    simp [Value.ownBlock] at e
    subst e
    rcases hat with hat | hat
    · exact h.ne _ hg' hat
    · have := (own_lt h.ownC hg').1; omega
theorem set_2 {w : World} {b t : Nat} {p q r u v : Value} {fr : Nat × Nat} (h : w.heap[b]? = some (.cells #[p, q, r, u] t fr)) : (w.setCell ⟨b, 2, none⟩ v).heap[b]? = some (.cells #[p, q, v, u] t fr) := by
  simp only [World.setCell, Array.getElem?_modify, h]
  simp
theorem set_3 {w : World} {b t : Nat} {p q r u v : Value} {fr : Nat × Nat} (h : w.heap[b]? = some (.cells #[p, q, r, u] t fr)) : (w.setCell ⟨b, 3, none⟩ v).heap[b]? = some (.cells #[p, q, r, v] t fr) := by
  simp only [World.setCell, Array.getElem?_modify, h]
  simp
/-- The rows are laid into the node. -/
theorem PS.store (h : PS w0 W bN B1 i v2 v3 vc vk cs ks) (ho : OwnAt W B1 3 1 IntR vk ks) (hb : w0.heap.size ≤ bN) : PS w0 ((W.setCell ⟨bN, 2, none⟩ vc).setCell ⟨bN, 3, none⟩ vk) bN B1 i vc vk vc vk cs ks := by
  have hk : ∀ k, k ≠ bN → ((W.setCell ⟨bN, 2, none⟩ vc).setCell ⟨bN, 3, none⟩ vk).heap[k]? = W.heap[k]? := fun k hk => (Below.heap_setCell _ ⟨bN, 3, none⟩ vk k hk).trans (Below.heap_setCell _ ⟨bN, 2, none⟩ vc k hk)
  have hc : ∀ {v : Value} {l : List Int}, OwnAt W B1 3 1 IntR v l → ∀ g, v.ownBlock = some g → g ≠ bN := fun ho g hg e => by
    obtain ⟨_, _, c, hc⟩ := own_lt ho hg
    rw [e, h.blk] at hc; injection hc with hc; injection hc with _ hc; cases hc
  have hsz : ((W.setCell ⟨bN, 2, none⟩ vc).setCell ⟨bN, 3, none⟩ vk).heap.size = W.heap.size := by simp [World.setCell]
  refine ⟨⟨h.below.os, h.below.tape, h.below.output, by rw [hsz]; exact h.below.size, fun k hk' => (hk k (by omega)).trans (h.below.block k hk')⟩, set_3 (set_2 h.blk), h.ownC.keep (fun k hk' _ => hk k (hc h.ownC k hk')) (fun _ _ _ h => h), .inl (ho.keep (fun k hk' _ => hk k (hc ho k hk')) (fun _ _ _ h => h)), h.ne, h.base.1, by rw [hsz]; exact h.base.2⟩
end
end Go.Proofs.YtfajbcjcigajfaaGreatDoor
