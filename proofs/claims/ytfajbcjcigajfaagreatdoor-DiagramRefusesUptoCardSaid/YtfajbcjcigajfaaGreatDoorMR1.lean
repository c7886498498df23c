/- Part of the proof of a law of customhouselaw26: the texts R1. -/
import Derived.Test.YtfajbcjcigajfaaGreatDoorMI3
import Derived.Test.YtfajbcjcigajfaaGreatDoorMR0
import Derived.Test.YtfajbcjcigajfaaGreatDoorMV1
/- A map's key written over; the boxes of the closure that grows. -/
namespace Go.Proofs.YtfajbcjcigajfaaGreatDoor
open Go.RowKit Go.Maps

section
variable {K V : Type} {P : Program} {kt et t : TypeId} {w : World} {b : Nat} {emb : K → Value} {emv : V → Value} {m : List (K × V)} [DecidableEq K]
omit [DecidableEq K] in
theorem mget_mem {m : List (K × V)} {a : K} {v : V} (hn : (m.map (·.1)).Nodup) {j : Nat} (hj : m[j]? = some (a, v)) {i : Nat} {p : K × V} (hi : m[i]? = some p) (hij : i ≠ j) : p.1 ≠ a := by
  intro e
  have h1 := (List.getElem?_eq_some_iff.1 hj).1
  have h2 := (List.getElem?_eq_some_iff.1 hi).1
  have e1 : (m.map (·.1))[i]'(by simpa using h2) = (m.map (·.1))[j]'(by simpa using h1) := by
    rw [List.getElem_map, List.getElem_map, (List.getElem?_eq_some_iff.1 hj).2, (List.getElem?_eq_some_iff.1 hi).2]; exact e
  exact hij (nodup_inj hn _ _ e1)
theorem MapAt.put_over (h : MapAt P kt w b emb emv m) (Kk : Keyed P kt) (ht : P.underlying t = some (.map kt et)) (hinj : ∀ x y, emb x = emb y → x = y) {a : K} {l : Lit} (ha : keyOf P kt (emb a) = some l) {v : V} (hn : mget m a = some v) (v2 : V) :
    ∃ w', (Instr.mapUpdate t (.map (some b)) (emb a) (emv v2)).run P w = .ok () w' ∧ MapAt P kt w' b emb emv (m.map (fun p => if p.1 = a then (a, v2) else p)) ∧ w.grownBy w' (some b) := by
  have h0 := h
  obtain ⟨es, clock, h1, h2, h3⟩ := h.find Kk hinj ha
  rcases h3 with ⟨e, hr⟩ | ⟨j, v', e, hj, hr⟩
  · rw [hn] at e; cases e
  · obtain rfl : v = v' := by rw [hn] at e; injection e
    have hlen : es.toList.length = m.length := by have := congrArg List.length h2; simpa using this
    have hjl := (List.getElem?_eq_some_iff.1 hj).1
    have hjl' : j < es.size := by simp at hlen; omega
    have hk : (es[j]'hjl').key = emb a ∧ (es[j]'hjl').val = emv v := by
      have h5 : (es.toList.map (fun e => (e.key, e.val)))[j]'(by simp; omega) = (m.map (fun p => (emb p.1, emv p.2)))[j]'(by simp; omega) := by simp only [h2]
      simp only [List.getElem_map, Prod.mk.injEq, Array.getElem_toList] at h5
      have h6 : m[j] = (a, v) := (List.getElem?_eq_some_iff.1 hj).2
      rw [h6] at h5
      exact h5
    refine ⟨{ w with heap := w.heap.setIfInBounds b (.map (es.modify j fun e => { e with key := emb a, val := emv v2 }) clock) }, ?_, ?_, ⟨rfl, rfl, rfl, by simp, fun k _ hk => ?_⟩⟩
    · simp [Instr.mapUpdate, run_underlying ht, MapKept.run_getObj_map h1, Kk.check w _ ha, hr, MapKept.run_setObj_map _ h1, Result.andThen, Array.getElem?_eq_getElem hjl', hk.1, Kk.stays w ha]
    · obtain ⟨_, _, _, _, h5, h6⟩ := h0
      refine ⟨es.modify j (fun e => { e with key := emb a, val := emv v2 }), clock, by simp only [Array.getElem?_setIfInBounds_self_of_lt (blt_ h1)], ?_, ?_, ?_⟩
      · apply List.ext_getElem?
        intro i
        rw [Array.toList_modify, List.getElem?_map, List.getElem?_modify, List.getElem?_map, List.getElem?_map]
        have hi : (es.toList.map (fun e => (e.key, e.val)))[i]? = (m.map (fun p => (emb p.1, emv p.2)))[i]? := by rw [h2]
        rw [List.getElem?_map, List.getElem?_map] at hi
        by_cases hij : j = i
        · subst hij
          rw [hj, Array.getElem?_toList, Array.getElem?_eq_getElem hjl']
          simp
        · simp only [hij, if_false, Option.map_eq_map, Option.map_map] at hi ⊢
          cases hmi : m[i]? with
          | none => rw [hmi] at hi; simpa [Function.comp] using hi
          | some p =>
            have hne := mget_mem h6 hj hmi (fun e => hij e.symm)
            rw [hmi] at hi
            simp only [Option.map_some, Function.comp, if_neg hne] at hi ⊢
            simpa [Function.comp] using hi
      · intro p hp
        obtain ⟨q, hq, rfl⟩ := List.mem_map.1 hp
        split
        · exact ⟨l, ha⟩
        · exact h5 q hq
      · have : (m.map (fun p => if p.1 = a then (a, v2) else p)).map (·.1) = m.map (·.1) := by
          rw [List.map_map]
          refine List.map_congr_left (fun p _ => ?_)
          simp only [Function.comp]
          split
          · rename_i e; exact e.symm
          · rfl
        rw [this]; exact h6
    · show (w.heap.setIfInBounds b _)[k]? = _
      rw [Array.getElem?_setIfInBounds_ne (fun e => hk (by rw [e]))]
end
theorem map_mput {w : World} {b : Nat} {m : List (ByteArray × Int)} (h : MapAt Tryz.prog 9 w b Value.string (fun k : Int => .int .i64 k) m) {a : ByteArray} (ha : a.size ≤ 140737488351232) (v : Int) :
    ∃ w', (Instr.mapUpdate 65 (.map (some b)) (.string a) (.int .i64 v)).run Tryz.prog w = .ok () w' ∧ MapAt Tryz.prog 9 w' b Value.string (fun k : Int => .int .i64 k) (mput m a v) ∧ w.grownBy w' (some b) := by
  unfold mput
  cases hm : mget m a with
  | none => exact MapAt.put h keyed9 Tryz.underlying65 strInj (keyStr ha) hm v
  | some u => exact MapAt.put_over h keyed9 Tryz.underlying65 strInj (keyStr ha) hm v
/-- The boxes of the closure that grows: b2 the maker's, b3 whether there is too much, b4 the domain, b5 what is done (the map bq), b6 the closure. -/
structure GAt (X : Nat → Prop) (w : World) (B0 bm b2 b3 b4 b5 b6 bq : Nat) (AD : Option Addr) (cD : Nat) (fs : List Fc) (s : St) : Prop where
  m : w.heap[b2]? = some (.cells #[.pointer (some ⟨bm, 0, none⟩)] 64 (0, 0))
  f : w.heap[b3]? = some (.cells #[.bool s.full] 4 (0, 0))
  d : w.heap[b4]? = some (.cells #[.slice AD fs.length cD] 27 (0, 0))
  dn : w.heap[b5]? = some (.cells #[.map (some bq)] 65 (0, 0))
  fn : w.heap[b6]? = some (.cells #[.func (Fn.func 39) #[] #[.pointer (some ⟨b2, 0, none⟩), .pointer (some ⟨b3, 0, none⟩), .pointer (some ⟨b4, 0, none⟩), .pointer (some ⟨b5, 0, none⟩), .pointer (some ⟨b6, 0, none⟩)]] 70 (0, 0))
  map : MapAt Tryz.prog 9 w bq Value.string (fun k : Int => .int .i64 k) s.done
  tb : ∃ S, MkAt S w B0 bm s.l ∧ ∀ b, S b → ¬ X b
  lo : B0 ≤ b3 ∧ B0 ≤ bq
  vals : ∀ p ∈ s.done, I64 p.2
  ne : ∀ v : Value, w.heap[bm]? ≠ some (.cells #[v, .map (some bq)] 69 (0, 0))
theorem MapAt.keep3 {w w1 : World} {b : Nat} {m : List (ByteArray × Int)} (h : MapAt Tryz.prog 9 w b Value.string (fun k : Int => .int .i64 k) m) (e : w1.heap[b]? = w.heap[b]?) : MapAt Tryz.prog 9 w1 b Value.string (fun k : Int => .int .i64 k) m := h.keep e
/-- The maker is as it was if only a block has turned that is none of its own. -/
theorem MkAt.other {S : Nat → Prop} {w w1 : World} {B0 bm x : Nat} {l : List Nd} (h : MkAt S w B0 bm l) (hx : B0 ≤ x) (hx2 : (∃ c fr, w.heap[x]? = some (.cells c 4 fr)) ∨ ((∃ es cl, w.heap[x]? = some (.map es cl)) ∧ ∀ v : Value, w.heap[bm]? ≠ some (.cells #[v, .map (some x)] 69 (0, 0))))
    (hs : w.heap.size ≤ w1.heap.size) (hk : ∀ k, k < w.heap.size → k ≠ x → w1.heap[k]? = w.heap[k]?) : MkAt S w1 B0 bm l := by
  obtain ⟨v, atv, hm, ho, hat⟩ := h.mem
  have hSx : ∀ b, S b → b ≠ x := by
    rintro b hb rfl
    rcases (h.foot b hb).2 with h1 | ⟨c, t, fr, h1, h2⟩
    · omega
    · rcases hx2 with ⟨c', fr', h3⟩ | ⟨⟨es, cl, h3⟩, _⟩
      · rw [h1] at h3; injection h3 with h3; injection h3 with _ h3; subst h3; cases h2
      · rw [h1] at h3; injection h3 with h3; cases h3
  have hbm : bm ≠ x := by
    rintro rfl
    rcases hx2 with ⟨c', fr', h3⟩ | ⟨⟨es, cl, h3⟩, _⟩
    · rw [hm] at h3; injection h3 with h3; injection h3 with _ h3; cases h3
    · rw [hm] at h3; injection h3 with h3; cases h3
  refine ⟨h.base, fun b hb => ⟨Nat.lt_of_lt_of_le (h.foot b hb).1 hs, ?_⟩, v, atv, (hk bm (blt_ hm) hbm).trans hm, ho.keep (fun k hk1 hlt => hk k hlt ?_) (fun y _ cs hy => NdR.keep hy hs (fun b hb hsb => hk b hb (hSx b hsb)) (fun _ _ h => h)), ?_⟩
  · rcases (h.foot b hb).2 with h1 | ⟨c, t, fr, h1, h2⟩
    · exact .inl h1
    · exact .inr ⟨c, t, fr, (hk b (h.foot b hb).1 (hSx b hb)).trans h1, h2⟩
  · rintro rfl
    obtain ⟨cells, ho, _⟩ := ho
    rcases ho.2 with ⟨rfl, _⟩ | ⟨g, cap, cur, rfl, _, hh, _⟩
    · cases hk1
    · simp [Value.ownBlock] at hk1
      subst hk1
      rcases hx2 with ⟨c', fr', h3⟩ | ⟨⟨es, cl, h3⟩, _⟩
      · rw [hh] at h3; injection h3 with h3; injection h3 with _ h3; cases h3
      · rw [hh] at h3; injection h3 with h3; cases h3
  · rcases hat with hat | ⟨b, h1, h2, h3⟩
    · exact .inl hat
    · refine .inr ⟨b, h1, h2, h3.keep (hk b h3.lt ?_)⟩
      rintro rfl
      rcases hx2 with ⟨c', fr', h4⟩ | ⟨_, h4⟩
      · obtain ⟨es, cl, h5, _⟩ := h3
        rw [h4] at h5; injection h5 with h5; cases h5
      · exact h4 v (by rw [hm, h1])
section
variable {X : Nat → Prop} {w w1 : World} {B0 bm b2 b3 b4 b5 b6 bq : Nat} {AD : Option Addr} {cD : Nat} {fs : List Fc} {s : St}
theorem GAt.bm_lt (h : GAt X w B0 bm b2 b3 b4 b5 b6 bq AD cD fs s) : bm < w.heap.size := by
  obtain ⟨S, hm, _⟩ := h.tb
  obtain ⟨v, atv, h1, _⟩ := hm.mem
  exact blt_ h1
theorem GAt.below (h : GAt X w B0 bm b2 b3 b4 b5 b6 bq AD cD fs s) (hb : Below w.heap.size w w1) : GAt X w1 B0 bm b2 b3 b4 b5 b6 bq AD cD fs s := by
  obtain ⟨S, hm, hSX⟩ := h.tb
  exact ⟨below_ hb h.m, below_ hb h.f, below_ hb h.d, below_ hb h.dn, below_ hb h.fn, h.map.below hb, ⟨S, hm.keep hb, hSX⟩, h.lo, h.vals, fun v e => h.ne v ((hb.block bm h.bm_lt).symm.trans e)⟩
/-- A step of the maker. -/
theorem GAt.step (h : GAt X w B0 bm b2 b3 b4 b5 b6 bq AD cD fs s) {S : Nat → Prop} {l : List Nd} (hm : MkAt S w1 B0 bm l) (hSX : ∀ b, S b → ¬ X b) (hk : NK bm w w1) : GAt X w1 B0 bm b2 b3 b4 b5 b6 bq AD cD fs { s with l := l } := by
  have hq := h.map
  obtain ⟨es, cl, h1, h2⟩ := h.map
  obtain ⟨e1, e2⟩ := hk.2 bq es cl h1 h.ne
  exact ⟨(hk.1 b2 _ _ _ h.m (by decide) (by decide)).trans h.m, (hk.1 b3 _ _ _ h.f (by decide) (by decide)).trans h.f, (hk.1 b4 _ _ _ h.d (by decide) (by decide)).trans h.d, (hk.1 b5 _ _ _ h.dn (by decide) (by decide)).trans h.dn, (hk.1 b6 _ _ _ h.fn (by decide) (by decide)).trans h.fn, hq.keep e1, ⟨S, hm, hSX⟩, h.lo, h.vals, e2⟩
theorem GAt.setFull (h : GAt X w B0 bm b2 b3 b4 b5 b6 bq AD cD fs s) (b : Bool) : GAt X (w.setCell ⟨b3, 0, none⟩ (.bool b)) B0 bm b2 b3 b4 b5 b6 bq AD cD fs { s with full := b } ∧ Mut B0 w (w.setCell ⟨b3, 0, none⟩ (.bool b)) := by
  have hne : ∀ {k : Nat} {x : Obj}, w.heap[k]? = some x → (∀ c fr, x ≠ .cells c 4 fr) → (w.setCell ⟨b3, 0, none⟩ (.bool b)).heap[k]? = some x := fun hk ht => (set_oth (fun e => by subst e; rw [h.f] at hk; injection hk with hk; exact ht _ _ hk.symm)).trans hk
  have hsz : (w.setCell ⟨b3, 0, none⟩ (.bool b)).heap.size = w.heap.size := by simp [World.setCell]
  obtain ⟨S, hm, hSX⟩ := h.tb
  refine ⟨⟨hne h.m (by rintro c fr e; injection e with _ e; cases e), set_one h.f, hne h.d (by rintro c fr e; injection e with _ e; cases e), hne h.dn (by rintro c fr e; injection e with _ e; cases e), hne h.fn (by rintro c fr e; injection e with _ e; cases e), ?_, ⟨S, hm.other h.lo.1 (.inl ⟨_, _, h.f⟩) (by rw [hsz]; exact Nat.le_refl _) (fun k _ hk => set_oth hk), hSX⟩, h.lo, h.vals, fun v e => ?_⟩, ⟨rfl, rfl, rfl, by rw [hsz]; exact Nat.le_refl _, fun k hk hi => set_oth ?_⟩⟩
  · obtain ⟨es, cl, h1, h2⟩ := h.map
    exact ⟨es, cl, hne h1 (by rintro c fr e; cases e), h2⟩
  · obtain ⟨u, atv, h1, _⟩ := hm.mem
    have h2 := hne h1 (by rintro c fr e; injection e with _ e; cases e)
    exact h.ne v (h1.trans (h2.symm.trans e))
  · rintro rfl
    rcases hi with hi | ⟨c, t, fr, h1, h2⟩
    · have := h.lo.1; omega
    · rw [h.f] at h1; injection h1 with h1; injection h1 with _ h1; subst h1; cases h2
theorem GAt.mono {Y : Nat → Prop} (h : GAt X w B0 bm b2 b3 b4 b5 b6 bq AD cD fs s) (hY : ∀ b, Y b → X b) : GAt Y w B0 bm b2 b3 b4 b5 b6 bq AD cD fs s := by
  obtain ⟨S, hm, hSX⟩ := h.tb
  exact ⟨h.m, h.f, h.d, h.dn, h.fn, h.map, ⟨S, hm, fun b hb hy => hSX b hb (hY b hy)⟩, h.lo, h.vals, h.ne⟩
theorem GAt.wide (h : GAt X w B0 bm b2 b3 b4 b5 b6 bq AD cD fs s) : GAt (fun b => X b ∨ w.heap.size ≤ b) w B0 bm b2 b3 b4 b5 b6 bq AD cD fs s := by
  obtain ⟨S, hm, hSX⟩ := h.tb
  exact ⟨h.m, h.f, h.d, h.dn, h.fn, h.map, ⟨S, hm, fun b hb hy => hy.elim (hSX b hb) (fun hy => by have := (hm.foot b hb).1; omega)⟩, h.lo, h.vals, h.ne⟩
/-- A row of ints that is none of the maker's own is grown. -/
theorem GAt.grown (h : GAt X w B0 bm b2 b3 b4 b5 b6 bq AD cD fs s) {v : Value} {l : List Int} {B : Nat} (ho : OwnAt w B 3 1 IntR v l) (hg : w.grownBy w1 v.ownBlock) (hX : ∀ b, v.ownBlock = some b → X b) : GAt X w1 B0 bm b2 b3 b4 b5 b6 bq AD cD fs s := by
  obtain ⟨S, hm, hSX⟩ := h.tb
  have hne : ∀ {k : Nat} {x : Obj}, w.heap[k]? = some x → (∀ c fr, x ≠ .cells c 3 fr) → w1.heap[k]? = some x := fun hk ht => (hg.block _ (blt_ hk) (own_neT ho hk ht)).trans hk
  obtain ⟨u, atv, h1, hor, hat⟩ := hm.mem
  have hbm := hne h1 (by rintro c fr e; injection e with _ e; cases e)
  have hSg : ∀ b, S b → some b ≠ v.ownBlock := fun b hb e => hSX b hb (hX b e.symm)
  refine ⟨hne h.m (by rintro c fr e; injection e with _ e; cases e), hne h.f (by rintro c fr e; injection e with _ e; cases e), hne h.d (by rintro c fr e; injection e with _ e; cases e), hne h.dn (by rintro c fr e; injection e with _ e; cases e), hne h.fn (by rintro c fr e; injection e with _ e; cases e), ?_, ⟨S, ⟨hm.base, fun b hb => ⟨Nat.lt_of_lt_of_le (hm.foot b hb).1 hg.size, ?_⟩, u, atv, hbm, hor.keep (fun k hk hlt => hg.block k hlt (fun e => ?_)) (fun y _ cs hy => NdR.keep hy hg.size (fun b hb hs => hg.block b hb (hSg b hs)) (fun _ _ h => h)), ?_⟩, hSX⟩, h.lo, h.vals, fun v' e => h.ne v' (h1.trans (hbm.symm.trans e))⟩
  · obtain ⟨es, cl, h2, h3⟩ := h.map
    exact ⟨es, cl, hne h2 (by rintro c fr e; cases e), h3⟩
  · rcases (hm.foot b hb).2 with h2 | ⟨c, t, fr, h2, h3⟩
    · exact .inl h2
    · exact .inr ⟨c, t, fr, (hg.block b (hm.foot b hb).1 (hSg b hb)).trans h2, h3⟩
  · obtain ⟨_, _, c2, h2⟩ := own_lt ho e.symm
    obtain ⟨cells, ho2, _⟩ := hor
    rcases ho2.2 with ⟨rfl, _⟩ | ⟨g, cap, cur, rfl, _, hh, _⟩
    · cases hk
    · simp [Value.ownBlock] at hk
      subst hk
      rw [hh] at h2; injection h2 with h2; injection h2 with _ h2; cases h2
  · rcases hat with hat | ⟨b, h2, h3, h4⟩
    · exact .inl hat
    · refine .inr ⟨b, h2, h3, h4.keep (hg.block b h4.lt ?_)⟩
      obtain ⟨es, cl, h5, _⟩ := h4
      exact own_neT ho h5 (by rintro c fr e; cases e)
theorem GAt.put (h : GAt X w B0 bm b2 b3 b4 b5 b6 bq AD cD fs s) {dn : List (ByteArray × Int)} (hm : MapAt Tryz.prog 9 w1 bq Value.string (fun k : Int => .int .i64 k) dn) (hg : w.grownBy w1 (some bq)) (hv : ∀ p ∈ dn, I64 p.2) : GAt X w1 B0 bm b2 b3 b4 b5 b6 bq AD cD fs { s with done := dn } ∧ Mut B0 w w1 := by
  obtain ⟨es, cl, hq, _⟩ := h.map
  have hne : ∀ {k t : Nat} {c : Array Value} {fr : Nat × Nat}, w.heap[k]? = some (.cells c t fr) → w1.heap[k]? = some (.cells c t fr) := fun hk => (hg.block _ (blt_ hk) (fun e => by injection e with e; subst e; rw [hq] at hk; injection hk with hk; cases hk)).trans hk
  obtain ⟨S, hmk, hSX⟩ := h.tb
  obtain ⟨u, atv, h1, _⟩ := hmk.mem
  refine ⟨⟨hne h.m, hne h.f, hne h.d, hne h.dn, hne h.fn, hm, ⟨S, hmk.other h.lo.2 (.inr ⟨⟨es, cl, hq⟩, h.ne⟩) hg.size (fun k hk hn => hg.block k hk (fun e => hn (by injection e))), hSX⟩, h.lo, hv, fun v e => h.ne v (h1.trans ((hne h1).symm.trans e))⟩, ⟨hg.os, hg.tape, hg.output, hg.size, fun k hk hi => hg.block k hk ?_⟩⟩
  intro e
  injection e with e
  subst e
  rcases hi with hi | ⟨c, t, fr, h2, h3⟩
  · have := h.lo.2; omega
  · rw [hq] at h2; injection h2 with h2; cases h2
end
theorem spell_len {fs : List Fc} (f : Fm) : OkF fs f → (spellS f).length ≤ 200 * nodesF f := by
  induction f using Fm.ind with
  | h f ih =>
    intro hf
    have hk : ∀ k ∈ f.kids, (spellS k).length ≤ 200 * nodesF k := fun k hk => ih k hk (hf.kid hk)
    have hform := (ok_form hf).head
    have hl := hf.head
    have hb : I64 f.op ∧ I64 f.cmp ∧ I64 f.n ∧ f.name.size ≤ 24 := by
      rcases formed_cases hform with ⟨h3, _, h4, h5, h6⟩ | ⟨h3, h4, h5, h6, h7⟩
      · have hn : 0 ≤ f.n ∧ f.n ≤ 1000000 := by
          unfold lookI at hl
          rw [if_neg (by rw [hform]; simp), if_neg (by simp [h3])] at hl
          split at hl
          · cases hl
          · omega
        unfold nameB at h6
        simp only [Bool.and_eq_true, decide_eq_true_eq] at h6
        exact ⟨by unfold I64; omega, by unfold I64; omega, by unfold I64; omega, h6.2.2⟩
      · refine ⟨by unfold I64; omega, by unfold I64; omega, by unfold I64; omega, ?_⟩
        rw [h4]; exact Nat.zero_le _
    obtain ⟨i1, i2, i3, i4⟩ := hb
    have n1 := itoa_le i1
    have n2 := itoa_le i2
    have n3 := itoa_le i3
    have hs : (f.kids.map (List.length ∘ spellS)).sum ≤ (f.kids.map (fun k => 200 * nodesF k)).sum := sum_map_le _ _ _ hk
    have h2 : ∀ l : List Fm, (l.map (fun k => 200 * nodesF k)).sum = 200 * (l.map nodesF).sum := by
      intro l
      induction l with
      | nil => rfl
      | cons x l ih => simp only [List.map_cons, List.sum_cons, ih]; omega
    rw [h2] at hs
    rw [spellS_eq, nodesF_eq]
    simp only [List.length_append, List.length_cons, List.length_nil, List.length_flatten, List.map_map, data_len]
    omega
theorem ok_small {fs : List Fc} {f : Fm} (h : OkF fs f) : AllF (fun g => g.op = 3 → 0 ≤ g.n ∧ g.n ≤ 1000000) f := AllF.imp (fun x hx h3 => by
  unfold lookI at hx
  split at hx
  · cases hx
  · rw [if_neg (by simp [h3])] at hx
    split at hx
    · cases hx
    · omega) f h
theorem ok_fmok {fs : List Fc} (f : Fm) : OkF fs f → nodesF f ≤ 200 → FmOk f := by
  induction f using Fm.ind with
  | h f ih =>
    intro hf hn
    have h1 := nodesF_eq f
    have hlen : f.kids.length ≤ (f.kids.map nodesF).sum := by
      have h2 : ∀ l : List Fm, l.length ≤ (l.map nodesF).sum := by
        intro l
        induction l with
        | nil => simp
        | cons x l ih => simp only [List.length_cons, List.map_cons, List.sum_cons]; have := nodes_pos x; omega
      exact h2 f.kids
    rw [FmOk]
    refine ⟨fun h4 => ?_, by omega, fun k hk => ih k hk (hf.kid hk) (by have := mem_sum nodesF _ _ hk; omega)⟩
    rcases formed_cases (ok_form hf).head with ⟨h3, _⟩ | ⟨_, _, _, _, h7⟩
    · omega
    · omega
theorem mput_vals {m : List (ByteArray × Int)} {a : ByteArray} {v : Int} (h : ∀ p ∈ m, I64 p.2) (hv : I64 v) : ∀ p ∈ mput m a v, I64 p.2 := by
  intro p hp
  unfold mput at hp
  split at hp
  · obtain ⟨q, hq, rfl⟩ := List.mem_map.1 hp
    split
    · exact hv
    · exact h q hq
  · rcases List.mem_append.1 hp with hp | hp
    · exact h p hp
    · rw [List.mem_singleton.1 hp]; exact hv
theorem mget_val {m : List (ByteArray × Int)} {a : ByteArray} {v : Int} (h : ∀ p ∈ m, I64 p.2) (hg : mget m a = some v) : I64 v := by
  unfold mget at hg
  obtain ⟨p, hp, rfl⟩ := Option.map_eq_some_iff.1 hg
  exact h p (List.mem_of_find?_eq_some hp)
theorem pos_le (l : List Nd) (x : Nd) : posN l x ≤ l.length := by
  unfold posN
  cases h : findN l x with
  | none => exact Nat.le_refl _
  | some i => exact Nat.le_of_lt (findN_some h).1
theorem pos_i64 {l : List Nd} (x : Nd) (h : l.length ≤ 100000000) : I64 (posN l x : Nat) := by
  have := pos_le l x
  unfold I64; omega
theorem innerK_i64 {l : List Nd} {i : Int} {st kids : List Int} (h : l.length ≤ 100000000) (hk : ∀ k ∈ kids, I64 k) : I64 (innerK l i st kids).1 := by
  unfold innerK
  split
  · cases kids with
    | nil => unfold I64; simp
    | cons k ks => exact hk k (by simp)
  · exact pos_i64 _ h
theorem starts_pos {x : Fc} (f : Fm) (h : x.lo ≤ x.hi) : 0 < (startsL x f).length := by
  unfold startsL
  have hm : x.lo ∈ (((x.lo :: cutsF x.name f).mergeSort fun a b => decide (a ≤ b)).filter fun n => !outB x n) := by
    rw [List.mem_filter, List.mem_mergeSort]
    exact ⟨by simp, by unfold outB; simp; omega⟩
  have hp := List.length_pos_of_mem hm
  generalize (((x.lo :: cutsF x.name f).mergeSort fun a b => decide (a ≤ b)).filter fun n => !outB x n) = l at hp
  unfold Lib.compact Lib.compactUpTo
  rw [List.length_map]
  exact List.length_pos_of_mem (a := 0) (List.mem_filter.2 ⟨List.mem_range.2 hp, by simp [Lib.keeps]⟩)
theorem bytes_cat (a b : List UInt8) : bytesOf a ++ bytesOf b = bytesOf (a ++ b) := by
  apply ByteArray.ext
  simp [bytesOf, ByteArray.data_append]
end Go.Proofs.YtfajbcjcigajfaaGreatDoor
