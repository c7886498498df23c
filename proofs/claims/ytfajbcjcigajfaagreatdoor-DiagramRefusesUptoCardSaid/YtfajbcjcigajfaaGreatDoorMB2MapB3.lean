/- Part of the proof of a law of customhouselaw26: the texts B2 Map B3. -/
import Derived.Maps.Keyed
import Derived.Maps.Own
import Derived.Test.YtfajbcjcigajfaaGreatDoorMBasA2A3
import Derived.Test.YtfajbcjcigajfaaGreatDoorMB1C1C2
namespace Go.Proofs.YtfajbcjcigajfaaGreatDoor
open Go.RowKit

/-- The first index from which on .. ; -1 if there is none. -/
def idxI {α : Type} (p : α → Bool) (xs : List α) : Int := match xs.findIdx? p with
  | some i => (i : Int)
  | none => -1
theorem idxI_none {α : Type} {p : α → Bool} {xs : List α} (h : ∀ x ∈ xs, p x = false) : idxI p xs = -1 := by
  unfold idxI
  rw [List.findIdx?_eq_none_iff.2 h]
theorem idxI_some {α : Type} {p : α → Bool} {xs : List α} {j : Nat} {x : α} (hj : xs[j]? = some x) (hx : p x = true) (h : ∀ x ∈ xs.take j, p x = false) : idxI p xs = j := by
  unfold idxI
  have hlt := (List.getElem?_eq_some_iff.1 hj).1
  have h2 : xs[j] = x := (List.getElem?_eq_some_iff.1 hj).2
  have : xs.findIdx? p = some j := by
    rw [List.findIdx?_eq_some_iff_getElem]
    refine ⟨hlt, by rw [h2]; exact hx, fun i hi => ?_⟩
    have := h xs[i] (by rw [List.mem_take_iff_getElem]; exact ⟨i, by omega, rfl⟩)
    simpa using this
  rw [this]
theorem nofirst_snoc {α : Type} {p : α → Bool} {xs : List α} {j : Nat} {x : α} (hj : xs[j]? = some x) (hx : p x = false) (h : ∀ x ∈ xs.take j, p x = false) : ∀ x ∈ xs.take (j + 1), p x = false := by
  rw [take_snoc hj]
  intro y hy
  rcases List.mem_append.1 hy with hy | hy
  · exact h y hy
  · rw [List.mem_singleton.1 hy]; exact hx
/-- A fact's four cells. -/
def fcv (x : Fc) : List Value := [.string x.name, .int .i64 x.kind, .int .i64 x.lo, .int .i64 x.hi]
def sameName (nm : ByteArray) (x : Fc) : Bool := x.name.toList == nm.toList

set_option maxHeartbeats 400000 in
theorem index1_any (x : Fc) (nm : ByteArray) (bn : Nat) (w : World) (hn : w.cell? ⟨bn, 0, none⟩ = some (.string nm)) :
    Calls Tryz.prog 102 #[.agg #[.string x.name, .int .i64 x.kind, .int .i64 x.lo, .int .i64 x.hi], .pointer (some ⟨bn, 0, none⟩)] w fun e w' => e = .returned (.bool (sameName nm x)) ∧ Below w.heap.size w w' := by
  have hl := cell_lt hn
  go_enter Tryz.func102, Tryz.ntmps102
  go_wp2_with fail
  go_ret
  exact ⟨rfl, (Below.refl _ _).alloc (Nat.le_refl _) _⟩

set_option maxHeartbeats 800000 in
theorem indexFuncFc_any (S : Nat → Prop) (xs : List Fc) (nm : ByteArray) (bn : Nat) (A : Option Addr) (c : Nat) (w : World) (hx : RowAt S w 4 FcR A xs) (hn : w.cell? ⟨bn, 0, none⟩ = some (.string nm)) :
    Calls Tryz.prog 101 #[.slice A xs.length c, .func (.func 102) #[] #[.pointer (some ⟨bn, 0, none⟩)]] w fun e w' => e = .returned (.int .i64 (idxI (sameName nm) xs)) ∧ Below w.heap.size w w' := by
  have hl := hx.1
  unfold N44 at hl
  have hnl := cell_lt hn
  go_enter Tryz.func101, Tryz.ntmps101
  go_wp2_with fail
  go_loopw [5, 8] (fun _ i wr => ∃ j : Nat, j ≤ xs.length ∧ i = .int .i64 j ∧ Hid (∀ x ∈ xs.take j, sameName nm x = false) ∧ Hid (Below w.heap.size w wr)) (fun _ i _ => xs.length - (intOf i).toNat)
  case atStart => exact ⟨0, Nat.zero_le _, rfl, Lib.hid (fun x h => by simp at h), Lib.hid (Below.refl _ _)⟩
  case round =>
    obtain ⟨j, hj, rfl, HN, HB⟩ := hrel
    by_cases hlt : j < xs.length
    · obtain ⟨b, o, rfl, hS, hbl, hcell⟩ := hx.2 (by omega)
      obtain ⟨cs, _, ⟨hcs, _⟩, hcc⟩ := hcell j xs[j] (List.getElem?_eq_getElem hlt)
      obtain ⟨k, hkd⟩ : ∃ k, k = xs[j] := ⟨_, rfl⟩
      rw [← hkd] at hcs
      subst hcs
      have HK := Lib.hid (show xs[j]? = some k by rw [List.getElem?_eq_getElem hlt, hkd])
      have hag := HB.out
      have e0 : wr.cell? ⟨b, o + j * 4, none⟩ = some (.string k.name) := (hag.cell (p := ⟨b, o + j * 4, none⟩) hbl).trans (hcc 0 _ rfl)
      have e1 : wr.cell? ⟨b, o + j * 4 + 1, none⟩ = some (.int .i64 k.kind) := (hag.cell (p := ⟨b, o + j * 4 + 1, none⟩) hbl).trans (hcc 1 _ rfl)
      have e2 : wr.cell? ⟨b, o + j * 4 + 2, none⟩ = some (.int .i64 k.lo) := (hag.cell (p := ⟨b, o + j * 4 + 2, none⟩) hbl).trans (hcc 2 _ rfl)
      have e3 : wr.cell? ⟨b, o + j * 4 + 3, none⟩ = some (.int .i64 k.hi) := (hag.cell (p := ⟨b, o + j * 4 + 3, none⟩) hbl).trans (hcc 3 _ rfl)
      clear hkd hcell hcc hag
      go_wp2_with fail
      refine (index1_any k nm bn _ ((HB.out.cell (p := ⟨bn, 0, none⟩) hnl).trans hn)).mono ?_
      rintro e w1 ⟨rfl, hb⟩
      have HB1 := Lib.hid (bthen HB.out hb)
      clear hb HB e0 e1 e2 e3
      cases hp : sameName nm k
      · have HP := Lib.hid (nofirst_snoc HK.out hp HN.out)
        clear hp
        go_wp2_with fail
        go_roundw
        case rel => exact ⟨j + 1, by omega, by go_num, HP, HB1⟩
        case measure => simp [intOf]; omega
      · have HP := Lib.hid (idxI_some HK.out hp HN.out)
        clear hp
        go_wp2_with fail
        go_ret
        exact ⟨by rw [HP.out]; rfl, HB1.out⟩
    · obtain rfl : j = xs.length := by omega
      go_wp2_with fail
      go_ret
      exact ⟨by rw [idxI_none (fun x hx => HN.out x (by rw [List.take_length]; exact hx))]; rfl, HB.out⟩
set_option maxHeartbeats 400000 in
theorem index_any (S : Nat → Prop) (xs : List Fc) (nm : ByteArray) (v : Value) (w : World) (hx : FcsAt S w v xs) :
    Calls Tryz.prog 53 #[.agg #[v], .string nm] w fun e w' => e = .returned (.int .i64 (idxI (sameName nm) xs)) ∧ Below w.heap.size w w' := by
  obtain ⟨A, c, rfl, hc, hr⟩ := hx
  go_enter Tryz.func53, Tryz.ntmps53
  go_wp2_with fail
  refine (indexFuncFc_any S xs nm _ A c _ (hr.keep (by simp; omega) (Agree.of_below (((Below.refl _ _).alloc (Nat.le_refl _) _).alloc (by simp) _)) (fun _ _ h => h) (fun _ _ _ h => h)) (by simp [go_sem])).mono ?_
  rintro e w1 ⟨rfl, hb⟩
  have HB := Lib.hid (bthen (((Below.refl w.heap.size w).alloc (Nat.le_refl _) _).alloc (by simp) _) hb)
  clear hb
  go_wp2_with fail
  go_ret
  exact ⟨rfl, HB.out⟩
end Go.Proofs.YtfajbcjcigajfaaGreatDoor
/- What a map of the call's own holds, as a list of keys and values: made, looked up, written. -/
namespace Go.Proofs.YtfajbcjcigajfaaGreatDoor
open Go.RowKit Go.Maps

section
variable {K V : Type}
/-- Block b is a map that holds m. -/
def MapAt (P : Program) (kt : TypeId) (w : World) (b : Nat) (emb : K → Value) (emv : V → Value) (m : List (K × V)) : Prop :=
  ∃ es clock, w.heap[b]? = some (.map es clock) ∧ es.toList.map (fun e => (e.key, e.val)) = m.map (fun p => (emb p.1, emv p.2)) ∧ (∀ p ∈ m, ∃ l, keyOf P kt (emb p.1) = some l) ∧ (m.map (·.1)).Nodup
variable {P : Program} {kt et t : TypeId} {w : World} {b : Nat} {emb : K → Value} {emv : V → Value} {m : List (K × V)}
theorem MapAt.made (w : World) : MapAt P kt (w.alloc (.map #[] 0)) w.heap.size emb emv ([] : List (K × V)) := ⟨#[], 0, new_ _ _, rfl, fun p h => by simp at h, by simp⟩
theorem MapAt.keep {w' : World} (h : MapAt P kt w b emb emv m) (hb : w'.heap[b]? = w.heap[b]?) : MapAt P kt w' b emb emv m := by
  obtain ⟨es, clock, h1, h2⟩ := h
  exact ⟨es, clock, hb.trans h1, h2⟩
theorem MapAt.lt (h : MapAt P kt w b emb emv m) : b < w.heap.size := by
  obtain ⟨es, clock, h1, _⟩ := h
  exact blt_ h1
theorem MapAt.alloc (h : MapAt P kt w b emb emv m) (o : Obj) : MapAt P kt (w.alloc o) b emb emv m := h.keep (Below.heap_alloc w o b h.lt)
theorem MapAt.below {w' : World} (h : MapAt P kt w b emb emv m) (hb : Below w.heap.size w w') : MapAt P kt w' b emb emv m := h.keep (hb.block b h.lt)
variable [DecidableEq K]
def mget (m : List (K × V)) (a : K) : Option V := (m.find? fun p => decide (p.1 = a)).map (·.2)
theorem mget_none {m : List (K × V)} {a : K} : mget m a = none ↔ ∀ p ∈ m, p.1 ≠ a := by
  unfold mget
  rw [Option.map_eq_none_iff, List.find?_eq_none]
  simp
theorem mget_at {m : List (K × V)} {a : K} {v : V} {j : Nat} (hn : (m.map (·.1)).Nodup) (hj : m[j]? = some (a, v)) : mget m a = some v := by
  unfold mget
  have hlt := (List.getElem?_eq_some_iff.1 hj).1
  have h2 : m[j] = (a, v) := (List.getElem?_eq_some_iff.1 hj).2
  have : m.find? (fun p => decide (p.1 = a)) = some (a, v) := by
    rw [List.find?_eq_some_iff_getElem]
    refine ⟨by simp, j, hlt, h2, fun i hi => ?_⟩
    have hij : (m.map (·.1))[i]'(by simp; omega) ≠ (m.map (·.1))[j]'(by simp; omega) := fun e => by
      exact (List.pairwise_iff_getElem.1 hn) i j (by simp; omega) (by simp; omega) hi e
    simp only [List.getElem_map] at hij
    rw [h2] at hij
    simpa using hij
  rw [this]
  rfl
theorem MapAt.find (h : MapAt P kt w b emb emv m) (Kk : Keyed P kt) (hinj : ∀ x y, emb x = emb y → x = y) {a : K} {l : Lit} (ha : keyOf P kt (emb a) = some l) :
    ∃ es clock, w.heap[b]? = some (.map es clock) ∧ es.toList.map (fun e => (e.key, e.val)) = m.map (fun p => (emb p.1, emv p.2)) ∧
      ((mget m a = none ∧ (Instr.findKey kt (emb a) es.toList).run P w = .ok none w) ∨ ∃ j v, mget m a = some v ∧ m[j]? = some (a, v) ∧ (Instr.findKey kt (emb a) es.toList).run P w = .ok (some (j, emv v)) w) := by
  obtain ⟨es, clock, h1, h2, h3, h4⟩ := h
  refine ⟨es, clock, h1, h2, ?_⟩
  have hlen : es.toList.length = m.length := by have := congrArg List.length h2; simpa using this
  have hes : ∀ e ∈ es.toList, ∃ l, keyOf P kt e.key = some l := by
    intro e he
    obtain ⟨j, hj, rfl⟩ := List.mem_iff_getElem.1 he
    have h5 : (es.toList.map (fun e => (e.key, e.val)))[j]'(by simpa using hj) = (m.map (fun p => (emb p.1, emv p.2)))[j]'(by simp; omega) := by simp only [h2]
    simp only [List.getElem_map, Prod.mk.injEq] at h5
    rw [h5.1]
    exact h3 _ (List.getElem_mem _)
  rcases Kk.find w ha es.toList hes with ⟨hr, hne⟩ | ⟨j, e, hr, hj, he⟩
  · refine .inl ⟨mget_none.2 (fun p hp e => ?_), hr⟩
    obtain ⟨j, hj, rfl⟩ := List.mem_iff_getElem.1 hp
    have h5 : (es.toList.map (fun e => (e.key, e.val)))[j]'(by simp at hlen ⊢; omega) = (m.map (fun p => (emb p.1, emv p.2)))[j]'(by simp; omega) := by simp only [h2]
    simp only [List.getElem_map, Prod.mk.injEq] at h5
    exact hne _ (List.getElem_mem _) (by rw [h5.1, e])
  · have hlt := (List.getElem?_eq_some_iff.1 hj).1
    have h6 : es.toList[j] = e := (List.getElem?_eq_some_iff.1 hj).2
    have h5 : (es.toList.map (fun e => (e.key, e.val)))[j]'(by simpa using hlt) = (m.map (fun p => (emb p.1, emv p.2)))[j]'(by rw [List.length_map]; omega) := by simp only [h2]
    simp only [List.getElem_map, Prod.mk.injEq] at h5
    rw [h6] at h5
    have h7 : m[j]'(by omega) = (a, (m[j]'(by omega)).2) := by
      rw [he] at h5
      exact Prod.ext (hinj _ _ h5.1.symm) rfl
    have h8 : m[j]? = some (a, (m[j]'(by omega)).2) := by rw [List.getElem?_eq_getElem (by omega)]; exact congrArg some h7
    rw [h5.2] at hr
    exact .inr ⟨j, _, mget_at h4 h8, h8, hr⟩
/-- 'm[a]', 'v, ok := m[a]'. -/
theorem MapAt.look (h : MapAt P kt w b emb emv m) (Kk : Keyed P kt) (ht : P.underlying t = some (.map kt et)) (hinj : ∀ x y, emb x = emb y → x = y) {a : K} {l : Lit} (ha : keyOf P kt (emb a) = some l) {z : Value} (hz : (zeroValue et).run P w = .ok z w) (ok : Bool) :
    (Instr.lookup t (.map (some b)) (emb a) ok).run P w = .ok (match mget m a with
      | some v => if ok then .tuple #[emv v, .bool true] else emv v
      | none => if ok then .tuple #[z, .bool false] else z) w := by
  obtain ⟨es, clock, h1, h2, h3⟩ := h.find Kk hinj ha
  rcases h3 with ⟨e, hr⟩ | ⟨j, v, e, _, hr⟩
  · rw [e]
    cases ok <;> simp [Instr.lookup, run_underlying ht, MapKept.run_getObj_map h1, Kk.check w _ ha, hr, hz, Result.andThen]
  · rw [e]
    cases ok <;> simp [Instr.lookup, run_underlying ht, MapKept.run_getObj_map h1, Kk.check w _ ha, hr, Result.andThen]
/-- 'm[a] = v', a new. -/
theorem MapAt.put (h : MapAt P kt w b emb emv m) (Kk : Keyed P kt) (ht : P.underlying t = some (.map kt et)) (hinj : ∀ x y, emb x = emb y → x = y) {a : K} {l : Lit} (ha : keyOf P kt (emb a) = some l) (hn : mget m a = none) (v : V) :
    ∃ w', (Instr.mapUpdate t (.map (some b)) (emb a) (emv v)).run P w = .ok () w' ∧ MapAt P kt w' b emb emv (m ++ [(a, v)]) ∧ w.grownBy w' (some b) := by
  have h0 := h
  obtain ⟨es, clock, h1, h2, h3⟩ := h.find Kk hinj ha
  rcases h3 with ⟨_, hr⟩ | ⟨j, v, e, _, hr⟩
  · refine ⟨{ w with heap := w.heap.setIfInBounds b (.map (es.push { key := emb a, val := emv v, born := clock }) (clock + 1)) }, ?_, ?_, ⟨rfl, rfl, rfl, by simp, fun k _ hk => ?_⟩⟩
    · simp [Instr.mapUpdate, run_underlying ht, MapKept.run_getObj_map h1, Kk.check w _ ha, hr, MapKept.run_setObj_map _ h1, Result.andThen]
    · refine ⟨es.push { key := emb a, val := emv v, born := clock }, clock + 1, ?_, ?_, ?_, ?_⟩
      · simp only [Array.getElem?_setIfInBounds_self_of_lt (blt_ h1)]
      · simp [h2]
      · intro p hp
        rcases List.mem_append.1 hp with hp | hp
        · obtain ⟨_, _, _, _, h5, _⟩ := h0
          exact h5 p hp
        · rw [List.mem_singleton.1 hp]; exact ⟨l, ha⟩
      · obtain ⟨_, _, _, _, _, h6⟩ := h0
        rw [List.map_append, List.nodup_append]
        refine ⟨h6, by simp, fun x hx y hy e => ?_⟩
        obtain ⟨p, hp, rfl⟩ := List.mem_map.1 hx
        simp at hy
        exact mget_none.1 hn p hp (e.trans hy)
    · show (w.heap.setIfInBounds b _)[k]? = _
      rw [Array.getElem?_setIfInBounds_ne (fun e => hk (by rw [e]))]
  · rw [hn] at e; cases e
theorem modify_same {α : Type} (l : List α) (j : Nat) (f : α → α) (h : ∀ x, l[j]? = some x → f x = x) : l.modify j f = l := by
  apply List.ext_getElem?
  intro i
  rw [List.getElem?_modify]
  split
  · rename_i e
    subst e
    cases hx : l[j]? with
    | none => rfl
    | some x => simp [h x hx]
  · simp
/-- 'm[a] = v' where m[a] is v already. -/
theorem MapAt.put_same (h : MapAt P kt w b emb emv m) (Kk : Keyed P kt) (ht : P.underlying t = some (.map kt et)) (hinj : ∀ x y, emb x = emb y → x = y) {a : K} {l : Lit} (ha : keyOf P kt (emb a) = some l) {v : V} (hn : mget m a = some v) :
    ∃ w', (Instr.mapUpdate t (.map (some b)) (emb a) (emv v)).run P w = .ok () w' ∧ MapAt P kt w' b emb emv m ∧ w.grownBy w' (some b) := by
  have h0 := h
  obtain ⟨es, clock, h1, h2, h3⟩ := h.find Kk hinj ha
  rcases h3 with ⟨e, hr⟩ | ⟨j, v', e, hj, hr⟩
  · rw [hn] at e; cases e
  · obtain rfl : v = v' := by rw [hn] at e; injection e
    have hlen : es.toList.length = m.length := by have := congrArg List.length h2; simpa using this
    have hjl := (List.getElem?_eq_some_iff.1 hj).1
    have hjl' : j < es.size := by simp at hlen; omega
    have hk : (es[j]'hjl').key = emb a ∧ (es[j]'hjl').val = emv v := by
      have h5 : (es.toList.map (fun e => (e.key, e.val)))[j]'(by simp; omega) = (m.map (fun p => (emb p.1, emv p.2)))[j]'(by simp; omega) := by simp only [h2]
      simp only [List.getElem_map, Prod.mk.injEq, Array.getElem_toList] at h5
      have h6 : m[j] = (a, v) := (List.getElem?_eq_some_iff.1 hj).2
      rw [h6] at h5
      exact h5
    refine ⟨{ w with heap := w.heap.setIfInBounds b (.map (es.modify j fun e => { e with key := emb a, val := emv v }) clock) }, ?_, ?_, ⟨rfl, rfl, rfl, by simp, fun k _ hk => ?_⟩⟩
    · simp [Instr.mapUpdate, run_underlying ht, MapKept.run_getObj_map h1, Kk.check w _ ha, hr, MapKept.run_setObj_map _ h1, Result.andThen, Array.getElem?_eq_getElem hjl', hk.1, Kk.stays w ha]
    · obtain ⟨_, _, _, _, h5, h6⟩ := h0
      refine ⟨es.modify j (fun e => { e with key := emb a, val := emv v }), clock, by simp only [Array.getElem?_setIfInBounds_self_of_lt (blt_ h1)], ?_, h5, h6⟩
      rw [← h2, Array.toList_modify, modify_same]
      intro x hx
      have : x = es[j]'hjl' := by
        rw [Array.getElem?_toList, Array.getElem?_eq_getElem hjl'] at hx
        injection hx with hx; exact hx.symm
      subst this
      rw [← hk.1, ← hk.2]
    · show (w.heap.setIfInBounds b _)[k]? = _
      rw [Array.getElem?_setIfInBounds_ne (fun e => hk (by rw [e]))]
end
section
variable {P : Program} {ops : Array Oper} {rest : List Oper} {o : Oper} {a : Act} {Q : Exit → Act → World → Prop} {w : World}
/-- A store into a map, at the operation. -/
theorem put_op (hgd : o.guard = none) (t : TypeId) (m x v : Operand) (ho : o.op = Op.mapUpdate t m x v) {mv kv vv : Value} (hm : a.eval m = mv) (hx : a.eval x = kv) (hv : a.eval v = vv) {R : World → Prop}
    (hr : ∃ w', (Instr.mapUpdate t mv kv vv).run P w = .ok () w' ∧ R w') (h : ∀ w', R w' → wpList P ops Q rest (a.put o.dst undef) w') : wpList P ops Q (o :: rest) a w := by
  obtain ⟨w', hr, hR⟩ := hr
  refine wpList_plain hgd fun K hK => ?_
  unfold Oper.wp
  simp [execOp, ho, hm, hx, hv, hr, Result.andThen]
  exact hK _ _ (h w' hR)
end
end Go.Proofs.YtfajbcjcigajfaaGreatDoor
namespace Go.Proofs.YtfajbcjcigajfaaGreatDoor
open Go.RowKit Go.Maps

instance memDec (s : ByteArray) (l : List ByteArray) : Decidable (s ∈ l) := decidable_of_iff (l.any (fun t => decide (t = s)) = true) (by simp)
def kindOk (x : Fc) : Bool := decide ((x.kind = 1 ∧ x.lo = 0 ∧ x.hi = 1) ∨ (x.kind = 2 ∧ 0 ≤ x.lo ∧ x.lo ≤ x.hi ∧ x.hi ≤ 1000000))
def validF : List ByteArray → List Fc → Bool
  | _, [] => true
  | seen, x :: r => kindOk x && nameB x.name && !(decide (x.name ∈ seen)) && validF (seen ++ [x.name]) r
def validD (fs : List Fc) : Bool := validF [] fs && decide (fs.length ≤ 60)
theorem drop_cons {α : Type} {gs : List α} {j : Nat} {k : α} (hj : gs[j]? = some k) : gs.drop j = k :: gs.drop (j + 1) := by
  have hlt := (List.getElem?_eq_some_iff.1 hj).1
  have h2 : gs[j] = k := (List.getElem?_eq_some_iff.1 hj).2
  rw [List.drop_eq_getElem_cons hlt, h2]
theorem validF_bad {fs : List Fc} {j : Nat} {x : Fc} (hj : fs[j]? = some x) (h : validF [] fs = validF ((fs.take j).map (·.name)) (fs.drop j)) (hb : kindOk x = false ∨ nameB x.name = false ∨ x.name ∈ (fs.take j).map (·.name)) : validD fs = false := by
  unfold validD
  rw [h, drop_cons hj, validF]
  rcases hb with hb | hb | hb
  · rw [hb]; rfl
  · rw [hb]; cases kindOk x <;> rfl
  · rw [decide_eq_true hb]; cases kindOk x <;> cases nameB x.name <;> rfl
theorem validF_step {fs : List Fc} {j : Nat} {x : Fc} (hj : fs[j]? = some x) (h : validF [] fs = validF ((fs.take j).map (·.name)) (fs.drop j)) (h1 : kindOk x = true) (h2 : nameB x.name = true) (h3 : x.name ∉ (fs.take j).map (·.name)) : validF [] fs = validF ((fs.take (j + 1)).map (·.name)) (fs.drop (j + 1)) := by
  rw [h, drop_cons hj, validF, h1, h2, decide_eq_false h3, take_snoc hj, List.map_append]
  simp
theorem validF_end {fs : List Fc} (h : validF [] fs = validF ((fs.take fs.length).map (·.name)) (fs.drop fs.length)) : validD fs = decide ((fs.length : Int) ≤ 60) := by
  unfold validD
  rw [h, List.drop_length, validF, Bool.true_and, decide_eq_decide]
  omega
theorem keyStr {s : ByteArray} (h : s.size ≤ 140737488351232) : keyOf Tryz.prog 9 (.string s) = some (.string s.data.toList) := WideMaps.keyOf_string_mk Tryz.underlying9 (by unfold maxLen; omega)
theorem strInj : ∀ x y : ByteArray, Value.string x = Value.string y → x = y := fun x y h => by injection h
theorem keyed9 : Keyed Tryz.prog 9 := string_keyed Tryz.underlying9
theorem zero4 (w : World) : (zeroValue 4).run Tryz.prog w = .ok (.bool false) w := by kernel_rfl
/-- A set of names. -/
def SetAt (w : World) (b : Nat) (l : List ByteArray) : Prop := MapAt Tryz.prog 9 w b Value.string Value.bool (l.map fun s => (s, true))
theorem mget_set {l : List ByteArray} {s : ByteArray} : mget (l.map fun s => (s, true)) s = if s ∈ l then some true else none := by
  split
  · rename_i h
    unfold mget
    have : ((l.map fun s => (s, true)).find? fun p => decide (p.1 = s)).isSome = true := by
      rw [List.find?_isSome]
      exact ⟨(s, true), List.mem_map.2 ⟨s, h, rfl⟩, by simp⟩
    obtain ⟨p, hp⟩ := Option.isSome_iff_exists.1 this
    rw [hp]
    obtain ⟨x, _, rfl⟩ := List.mem_map.1 (List.mem_of_find?_eq_some hp)
    rfl
  · rename_i h
    rw [mget_none]
    intro p hp e
    obtain ⟨x, hx, rfl⟩ := List.mem_map.1 hp
    exact h (e ▸ hx)
theorem SetAt.look {w : World} {b : Nat} {l : List ByteArray} (h : SetAt w b l) {s : ByteArray} (hs : s.size ≤ 140737488351232) : (Instr.lookup 62 (.map (some b)) (.string s) false).run Tryz.prog w = .ok (.bool (decide (s ∈ l))) w := by
  rw [MapAt.look h keyed9 Tryz.underlying62 strInj (keyStr hs) (zero4 w) false, mget_set]
  by_cases hm : s ∈ l <;> simp [hm]
theorem SetAt.add {w : World} {b : Nat} {l : List ByteArray} (h : SetAt w b l) {s : ByteArray} (hs : s.size ≤ 140737488351232) : ∃ w', (Instr.mapUpdate 62 (.map (some b)) (.string s) (.bool true)).run Tryz.prog w = .ok () w' ∧ (SetAt w' b (if s ∈ l then l else l ++ [s]) ∧ w.grownBy w' (some b)) := by
  by_cases hm : s ∈ l
  · rw [if_pos hm]
    exact MapAt.put_same h keyed9 Tryz.underlying62 strInj (keyStr hs) (v := true) (by rw [mget_set, if_pos hm])
  · rw [if_neg hm]
    obtain ⟨w', h1, h2, h3⟩ := MapAt.put h keyed9 Tryz.underlying62 strInj (keyStr hs) (by rw [mget_set, if_neg hm]) true
    exact ⟨w', h1, by unfold SetAt; rw [List.map_append]; exact h2, h3⟩
set_option maxRecDepth 100000 in
set_option maxHeartbeats 2000000 in
theorem validFact_any (S : Nat → Prop) (xs : List Fc) (v : Value) (w : World) (hx : FcsAt S w v xs) :
    Calls Tryz.prog 13 #[.agg #[v]] w fun e w' => e = .returned (.bool (validD xs)) ∧ Below w.heap.size w w' := by
  obtain ⟨A, c, rfl, hc, hr⟩ := hx
  have hl := hr.1
  unfold N44 at hl
  have hmm := @run_makeMap Tryz.prog
  go_enter Tryz.func13, Tryz.ntmps13
  go_wp2_with fail
  go_loopw [5, 6, 7, 12] (fun _ _ _ i wr => ∃ j : Nat, j ≤ xs.length ∧ i = .int .i64 j ∧ Hid (validF [] xs = validF ((xs.take j).map (·.name)) (xs.drop j)) ∧ Hid (SetAt wr (w.heap.size + 1) ((xs.take j).map (·.name))) ∧ Hid (Below w.heap.size w wr) ∧ wr.cell? ⟨w.heap.size, 0, none⟩ = some (.slice A xs.length c)) (fun _ _ _ i _ => xs.length - (intOf i).toNat)
  case atStart => exact ⟨0, Nat.zero_le _, rfl, Lib.hid rfl, Lib.hid (show SetAt _ _ [] by unfold SetAt; simpa using MapAt.made (w.alloc _)), Lib.hid (((Below.refl _ _).alloc (Nat.le_refl _) _).alloc (by simp) _), by simp [go_sem]⟩
  case round =>
    obtain ⟨j, hj, rfl, HV, HM, HB, hd0⟩ := hrel
    have hml := MapAt.lt HM.out
    by_cases hlt : j < xs.length
    · obtain ⟨b, o, rfl, hS, hbl, hcell⟩ := hr.2 (by omega)
      obtain ⟨cs, _, ⟨hcs, hi1, hi2, hi3, hsz⟩, hcc⟩ := hcell j xs[j] (List.getElem?_eq_getElem hlt)
      obtain ⟨k, hkd⟩ : ∃ k, k = xs[j] := ⟨_, rfl⟩
      rw [← hkd] at hcs hsz hi1 hi2 hi3
      subst hcs
      have HK := Lib.hid (show xs[j]? = some k by rw [List.getElem?_eq_getElem hlt, hkd])
      have hag := HB.out
      have e0 : wr.cell? ⟨b, o + j * 4, none⟩ = some (.string k.name) := (hag.cell (p := ⟨b, o + j * 4, none⟩) hbl).trans (hcc 0 _ rfl)
      have e1 : wr.cell? ⟨b, o + j * 4 + 1, none⟩ = some (.int .i64 k.kind) := (hag.cell (p := ⟨b, o + j * 4 + 1, none⟩) hbl).trans (hcc 1 _ rfl)
      have e2 : wr.cell? ⟨b, o + j * 4 + 2, none⟩ = some (.int .i64 k.lo) := (hag.cell (p := ⟨b, o + j * 4 + 2, none⟩) hbl).trans (hcc 2 _ rfl)
      have e3 : wr.cell? ⟨b, o + j * 4 + 3, none⟩ = some (.int .i64 k.hi) := (hag.cell (p := ⟨b, o + j * 4 + 3, none⟩) hbl).trans (hcc 3 _ rfl)
      clear hkd hcell hcc hag hi1 hi2 hi3
      have hcase : (kindOk k = true ∧ (((k.kind == 1) = true ∧ (k.lo == 0) = true ∧ (k.hi == 1) = true ∧ (k.kind == 2) = false) ∨ ((k.kind == 1) = false ∧ (k.kind == 2) = true ∧ 0 ≤ k.lo ∧ k.lo ≤ k.hi ∧ k.hi ≤ 1000000))) ∨
          (kindOk k = false ∧ (((k.kind == 1) = true ∧ (k.lo == 0) = true ∧ (k.hi == 1) = false ∧ (k.kind == 2) = false) ∨ ((k.kind == 1) = true ∧ (k.lo == 0) = false ∧ (k.kind == 2) = false) ∨ ((k.kind == 1) = false ∧ (k.kind == 2) = true ∧ k.lo < 0) ∨ ((k.kind == 1) = false ∧ (k.kind == 2) = true ∧ 0 ≤ k.lo ∧ k.hi < k.lo) ∨ ((k.kind == 1) = false ∧ (k.kind == 2) = true ∧ 0 ≤ k.lo ∧ k.lo ≤ k.hi ∧ 1000000 < k.hi) ∨ ((k.kind == 1) = false ∧ (k.kind == 2) = false))) := by
        unfold kindOk
        simp only [beq_iff_eq, beq_eq_false_iff_ne, decide_eq_true_eq, decide_eq_false_iff_not]
        omega
      rcases hcase with ⟨hok, hcs⟩ | ⟨hno, hcs⟩
      · have hlk := SetAt.look (MapAt.alloc HM.out (.cells #[.string k.name, .int .i64 k.kind, .int .i64 k.lo, .int .i64 k.hi] 82)) hsz
        have HO := Lib.hid hok
        clear hok
        cases hnb : nameB k.name
        · have HE := Lib.hid (validF_bad HK.out HV.out (.inr (.inl hnb)))
          clear hlk
          rcases hcs with ⟨h1, h2, h3, h4⟩ | ⟨h1, h2, h3, h4, h5⟩
          all_goals
            go_wp2_with (first | (go_at_call 48; refine (isName_any _ _ hsz).mono ?_; rintro e w' ⟨rfl, rfl⟩; rw [hnb]))
            go_ret
            exact ⟨by rw [HE.out]; rfl, HB.out.alloc HB.out.size _⟩
        · by_cases hm : k.name ∈ (xs.take j).map (·.name)
          · have HE := Lib.hid (validF_bad HK.out HV.out (.inr (.inr hm)))
            rw [decide_eq_true hm] at hlk
            clear hm
            rcases hcs with ⟨h1, h2, h3, h4⟩ | ⟨h1, h2, h3, h4, h5⟩
            all_goals
              go_wp2_with (first | (go_at_call 48; refine (isName_any _ _ hsz).mono ?_; rintro e w' ⟨rfl, rfl⟩; rw [hnb]))
              go_ret
              exact ⟨by rw [HE.out]; rfl, HB.out.alloc HB.out.size _⟩
          · have HV2 := Lib.hid (validF_step HK.out HV.out HO.out hnb hm)
            rw [decide_eq_false hm] at hlk
            have hst := SetAt.add (MapAt.alloc HM.out (.cells #[.string k.name, .int .i64 k.kind, .int .i64 k.lo, .int .i64 k.hi] 82)) hsz
            rw [if_neg hm] at hst
            have HST := Lib.hid hst
            clear hm hst
            rcases hcs with ⟨h1, h2, h3, h4⟩ | ⟨h1, h2, h3, h4, h5⟩
            all_goals
              go_wp2_with (first | (go_at_call 48; refine (isName_any _ _ hsz).mono ?_; rintro e w' ⟨rfl, rfl⟩; rw [hnb]) | (at_mapUpdate; refine put_op rfl 62 (.tmp 67) (.tmp 69) (.const (.bool true)) rfl rfl rfl rfl HST.out ?_))
              intro w2 hs2 hg2
              have R1 := Lib.hid (show SetAt w2 (w.heap.size + 1) ((xs.take (j + 1)).map (·.name)) by rw [take_snoc HK.out, List.map_append]; simpa using hs2)
              have R2 := Lib.hid ((HB.out.alloc HB.out.size _).grown hg2 (by have := HB.out.size; simp; omega) (fun i hi => by cases hi; omega))
              have R3 : w2.cell? ⟨w.heap.size, 0, none⟩ = some (.slice (some ⟨b, o, none⟩) xs.length c) := by
                rw [World.cell?_of_block (a := ⟨w.heap.size, 0, none⟩) (hg2.block w.heap.size (by simp; omega) (by simp))]
                rw [World.cell?_alloc_lt wr _ ⟨w.heap.size, 0, none⟩ (by simp; omega)]
                exact hd0
              clear hs2 hg2 HST hlk HV HM HB e0 e1 e2 e3
              go_wp2_with fail
              go_roundw
              case rel => exact ⟨j + 1, by omega, by go_num, HV2, R1, R2, R3⟩
              case measure => simp [intOf]; omega
      · have HE := Lib.hid (validF_bad HK.out HV.out (.inl hno))
        clear hno
        rcases hcs with ⟨h1, h2, h3, h4⟩ | ⟨h1, h2, h3⟩ | ⟨h1, h2, h3⟩ | ⟨h1, h2, h3, h4⟩ | ⟨h1, h2, h3, h4, h5⟩ | ⟨h1, h2⟩
        all_goals
          go_wp2_with fail
          go_ret
          exact ⟨by rw [HE.out]; rfl, HB.out.alloc HB.out.size _⟩
    · obtain rfl : j = xs.length := by omega
      have HE := Lib.hid (validF_end HV.out)
      go_wp2_with fail
      go_ret
      exact ⟨by rw [HE.out]; rfl, HB.out⟩
end Go.Proofs.YtfajbcjcigajfaaGreatDoor
