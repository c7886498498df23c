/- Part of the proof of a law of customhouselaw26: the texts G3. -/
import Derived.Deep.RegionLaw
import Derived.Deep.AppendLies
import Derived.Test.YtfajbcjcigajfaaGreatDoorMB2MapB3
import Derived.Test.YtfajbcjcigajfaaGreatDoorMG1G2
namespace Go.Proofs.YtfajbcjcigajfaaGreatDoor
open Go.RowKit Go.Maps

/-- The table with a node, and the node's index. -/
def findN (l : List Nd) (x : Nd) : Option Nat := l.findIdx? (sameN x)
def addN (l : List Nd) (x : Nd) : List Nd := if (findN l x).isSome then l else l ++ [x]
def posN (l : List Nd) (x : Nd) : Nat := (findN l x).getD l.length
def tabK (l : List Nd) (k : Nat) : List (ByteArray × Nat) := (l.zipIdx k).map fun p => (bytesOf (writeS p.1), p.2)
def tabM (l : List Nd) : List (ByteArray × Nat) := tabK l 0
theorem tabM_snoc (l : List Nd) (x : Nd) : tabM (l ++ [x]) = tabM l ++ [(bytesOf (writeS x), l.length)] := by
  simp [tabM, tabK, List.zipIdx_append]
theorem wr_eq {x y : Nd} : bytesOf (writeS x) = bytesOf (writeS y) ↔ x = y := ⟨fun h => write_inj (bytesOf_inj h), fun h => h ▸ rfl⟩
theorem mget_tabK (x : Nd) : ∀ (l : List Nd) (k : Nat), mget (tabK l k) (bytesOf (writeS x)) = (l.findIdx? (sameN x)).map (· + k)
  | [], k => rfl
  | y :: l, k => by
    have ih := mget_tabK x l (k + 1)
    unfold tabK mget at ih ⊢
    simp only [List.zipIdx_cons, List.map_cons, List.find?_cons, List.findIdx?_cons]
    by_cases h : x = y
    · subst h
      have h1 : sameN x x = true := (sameN_iff x x).2 rfl
      simp [h1]
    · have h1 : sameN x y = false := by rw [Bool.eq_false_iff]; intro h2; exact h ((sameN_iff x y).1 h2)
      have h2 : decide (bytesOf (writeS y) = bytesOf (writeS x)) = false := by
        rw [decide_eq_false_iff_not, wr_eq]; exact fun e => h e.symm
      rw [h1, h2]
      simp only [Bool.false_eq_true, if_false]
      rw [ih]
      simp only [Option.map_map]
      congr 1
      funext i
      simp only [Function.comp]; omega
theorem mget_tab (l : List Nd) (x : Nd) : mget (tabM l) (bytesOf (writeS x)) = findN l x := by
  unfold tabM findN
  rw [mget_tabK]
  simp
theorem zero3 (w : World) : (zeroValue 3).run Tryz.prog w = .ok (.int .i64 0) w := by kernel_rfl
theorem natV_inj : ∀ x y : Nat, Value.int .i64 (x : Int) = Value.int .i64 (y : Int) → x = y := fun x y h => by injection h with _ h; omega
/-- The maker in block bm has the table l; the nodes' own rows lie in S. -/
structure MkAt (S : Nat → Prop) (w : World) (B0 bm : Nat) (l : List Nd) : Prop where
  base : B0 ≤ bm
  foot : ∀ b, S b → b < w.heap.size ∧ Imm B0 w b
  mem : ∃ v atv, w.heap[bm]? = some (.cells #[v, atv] 69 (0, 0)) ∧ OwnAt w B0 55 4 (NdR S w) v l ∧ ((atv = .map none ∧ l = []) ∨ ∃ b, atv = .map (some b) ∧ B0 ≤ b ∧ MapAt Tryz.prog 9 w b Value.string (fun i : Nat => .int .i64 (i : Int)) (tabM l))
theorem eqMapNil (a : Option Nat) (w : World) : (binOp .eql 65 (.map a) (.map none)).run Tryz.prog w = .ok (.bool a.isNone) w := run_eql_map_nil w 65 9 3 a Tryz.underlying65
def ndBox (x : Nd) (A2 : Option Addr) (c2 : Nat) (A3 : Option Addr) (c3 : Nat) : Obj := .cells #[.bool x.leaf, .int .i64 x.fact, .slice A2 x.cuts.length c2, .slice A3 x.kids.length c3] 55 (0, 0)
theorem set_two {w : World} {b t : Nat} {a c v : Value} {fr : Nat × Nat} (h : w.heap[b]? = some (.cells #[a, c] t fr)) : (w.setCell ⟨b, 1, none⟩ v).heap[b]? = some (.cells #[a, v] t fr) := by
  simp only [World.setCell, Array.getElem?_modify, h]
  simp
theorem set_two0 {w : World} {b t : Nat} {a c v : Value} {fr : Nat × Nat} (h : w.heap[b]? = some (.cells #[a, c] t fr)) : (w.setCell ⟨b, 0, none⟩ v).heap[b]? = some (.cells #[v, c] t fr) := by
  simp only [World.setCell, Array.getElem?_modify, h]
  simp
theorem size_setCell (w : World) (p : Addr) (v : Value) : (w.setCell p v).heap.size = w.heap.size := by simp [World.setCell]
theorem grown_drew {w w1 : World} {r : Option Nat} (h : w.drew.grownBy w1 r) : w.grownBy w1 r := ⟨h.os, h.tape, h.output, h.size, h.block⟩
theorem chgA {w W w6 : World} {bm bN : Nat} (h : Chg (fun i => i = bm) w W) (hg : W.grownBy w6 (some bN)) : Chg (fun i => i = bm ∨ i = bN) w w6 :=
  Chg.grown (T := fun i => i = bm ∨ i = bN) ⟨h.os, h.tape, h.output, h.size, fun k hk ht => h.block k hk (fun e => ht (.inl e))⟩ hg (fun i hi _ => .inr (by injection hi with hi; exact hi.symm))
theorem own_neO {w : World} {B : Nat} {e : TypeId} {sz n : Nat} {v : Value} {cells : List Value} (h : w.ownsRow B e sz v n cells) {b : Nat} {o : Obj} (hb : w.heap[b]? = some o) (ho : ∀ c fr, o ≠ .cells c e fr) : some b ≠ v.ownBlock := by
  intro hbe
  rcases h.2 with ⟨rfl, _⟩ | ⟨g, cap, cur, rfl, _, hh, _⟩
  · cases hbe
  · simp [Value.ownBlock] at hbe
    subst hbe
    rw [hh] at hb
    injection hb with hb
    exact ho cur (0, 0) hb.symm
theorem own_not_imm {w : World} {B0 : Nat} {sz n : Nat} {v : Value} {cells : List Value} (h : w.ownsRow B0 55 sz v n cells) {i : Nat} (hi : some i = v.ownBlock) : ¬ Imm B0 w i := by
  rcases h.2 with ⟨rfl, _⟩ | ⟨g, cap, cur, rfl, hg, hh, _⟩
  · cases hi
  · simp [Value.ownBlock] at hi
    subst hi
    rintro (h1 | ⟨c, t, fr, h1, h2⟩)
    · omega
    · rw [hh] at h1
      injection h1 with h1
      injection h1 with _ h1
      rw [← h1] at h2
      exact absurd h2 (by decide)
theorem not_imm_of {w : World} {B0 : Nat} {b : Nat} {o : Obj} (hb : w.heap[b]? = some o) (hB : B0 ≤ b) (ho : ∀ c t fr, o = .cells c t fr → mutT t = true) : ¬ Imm B0 w b := by
  rintro (h1 | ⟨c, t, fr, h1, h2⟩)
  · omega
  · rw [hb] at h1
    injection h1 with h1
    have := ho c t fr h1
    rw [this] at h2; cases h2
/-- What a step of the maker leaves as it is: what is no node and no maker, and every other map. -/
def NK (bm : Nat) (w w' : World) : Prop :=
  (∀ (k : Nat) (c : Array Value) (t : TypeId) (fr : Nat × Nat), w.heap[k]? = some (.cells c t fr) → t ≠ 55 → t ≠ 69 → w'.heap[k]? = w.heap[k]?) ∧
  ∀ (bq : Nat) (es : Array MapEntry) (cl : Nat), w.heap[bq]? = some (.map es cl) → (∀ v : Value, w.heap[bm]? ≠ some (.cells #[v, .map (some bq)] 69 (0, 0))) → w'.heap[bq]? = w.heap[bq]? ∧ ∀ v : Value, w'.heap[bm]? ≠ some (.cells #[v, .map (some bq)] 69 (0, 0))
theorem NK.of_below {bm : Nat} {w w' : World} (hbm : bm < w.heap.size) (h : Below w.heap.size w w') : NK bm w w' :=
  ⟨fun k _c _t _fr hk _ _ => h.block k (blt_ hk), fun bq _es _cl hq hn => ⟨h.block bq (blt_ hq), fun v e => hn v ((h.block bm hbm).symm.trans e)⟩⟩
theorem NK.trans {bm : Nat} {a b c : World} (h : NK bm a b) (k : NK bm b c) : NK bm a c :=
  ⟨fun i cs t fr hi h1 h2 => by
    have e := h.1 i cs t fr hi h1 h2
    exact (k.1 i cs t fr (e.trans hi) h1 h2).trans e, fun bq es cl hq hn => by
    obtain ⟨e, hn2⟩ := h.2 bq es cl hq hn
    obtain ⟨e2, hn3⟩ := k.2 bq es cl (e.trans hq) hn2
    exact ⟨e2.trans e, hn3⟩⟩
theorem nk_fin {w w' : World} {B0 bm bN n0 : Nat} {v v7 atv : Value} {cells : List Value} (hm : w.heap[bm]? = some (.cells #[v, atv] 69 (0, 0))) (hm' : w'.heap[bm]? = some (.cells #[v7, .map (some bN)] 69 (0, 0)))
    (hC : Chg (fun i => (i = bm ∨ i = bN) ∨ some i = v.ownBlock) w w') (hbN3 : (atv = .map (some bN) ∧ ∃ es cl, w.heap[bN]? = some (.map es cl)) ∨ w.heap.size ≤ bN) (hv : w.ownsRow B0 55 4 v n0 cells) : NK bm w w' := by
  refine ⟨fun k c t fr hk h1 h2 => hC.block k (blt_ hk) ?_, fun bq es cl hq hn => ⟨hC.block bq (blt_ hq) ?_, ?_⟩⟩
  · rintro ((rfl | rfl) | h3)
    · rw [hm] at hk; injection hk with hk; injection hk with _ hk; exact h2 hk.symm
    · rcases hbN3 with ⟨_, es, cl, h3⟩ | h3
      · rw [h3] at hk; injection hk with hk; cases hk
      · have := blt_ hk; omega
    · exact own_neO hv hk (by rintro c' fr' e; injection e with _ e; exact h1 e) h3
  · rintro ((rfl | rfl) | h3)
    · rw [hm] at hq; injection hq with hq; cases hq
    · rcases hbN3 with ⟨rfl, _⟩ | h3
      · exact hn v hm
      · have := blt_ hq; omega
    · exact own_neO hv hq (by rintro c' fr' e; cases e) h3
  · intro u e
    rw [hm'] at e
    injection e with e
    injection e with e
    have e2 : bN = bq := by
      have := congrArg Array.toList e
      simp at this
      exact this.2
    subst e2
    rcases hbN3 with ⟨rfl, _⟩ | h3
    · exact hn v hm
    · have := blt_ hq; omega
/-- The maker behind the step that adds a node. -/
theorem mk_fin {S S2 : Nat → Prop} {w w6 w7 : World} {B0 bm bN n0 : Nat} {l : List Nd} {x : Nd} {A2 : Option Addr} {c2 : Nat} {A3 : Option Addr} {c3 : Nat} {v v7 : Value} {cells : List Value} {atv : Value}
    (hm : w.heap[bm]? = some (.cells #[v, atv] 69 (0, 0))) (hB : B0 ≤ bm) (hS : ∀ b, S b → b < w.heap.size ∧ Imm B0 w b) (hS2 : ∀ b, S2 b → b < w.heap.size ∧ Imm B0 w b) (hN : NdIn S2 w x A2 c2 A3 c3)
    (hv : w.ownsRow B0 55 4 v n0 cells) (hrows : Rows_ (NdR S w) 4 cells l) (hbN : B0 ≤ bN) (hbN2 : bN < w.heap.size → ¬ Imm B0 w bN) (hbN3 : (atv = .map (some bN) ∧ ∃ es cl, w.heap[bN]? = some (.map es cl)) ∨ w.heap.size ≤ bN)
    (h6 : Chg (fun i => i = bm ∨ i = bN) w w6) (hm6 : w6.heap[bm]? = some (.cells #[v, .map (some bN)] 69 (0, 0))) (hmap : MapAt Tryz.prog 9 w6 bN Value.string (fun i : Nat => .int .i64 (i : Int)) (tabM l ++ [(bytesOf (writeS x), l.length)]))
    (o : Obj) (hg7 : (w6.alloc o).grownBy w7 v.ownBlock) (hv6 : w6.ownsRow B0 55 4 v n0 cells) (hown7 : w7.ownsRow B0 55 4 v7 (l.length + 1) (cells ++ ndCells x (.slice A2 x.cuts.length c2) (.slice A3 x.kids.length c3))) :
    MkAt (fun b => S b ∨ S2 b) (w7.setCell ⟨bm, 0, none⟩ v7) B0 bm (l ++ [x]) ∧ Mut B0 w (w7.setCell ⟨bm, 0, none⟩ v7) ∧ NK bm w (w7.setCell ⟨bm, 0, none⟩ v7) := by
  have hbmv : some bm ≠ v.ownBlock := own_neO hv6 hm6 (by rintro c fr h; cases h)
  have hm7 : w7.heap[bm]? = some (.cells #[v, .map (some bN)] 69 (0, 0)) := (hg7.block bm (by have := blt_ hm6; simp; omega) hbmv).trans (old_ hm6)
  have hbmv7 : some bm ≠ v7.ownBlock := own_neO hown7 hm7 (by rintro c fr h; cases h)
  have hC : Chg (fun i => (i = bm ∨ i = bN) ∨ some i = v.ownBlock) w (w7.setCell ⟨bm, 0, none⟩ v7) := by
    have h1 : Chg (fun i => (i = bm ∨ i = bN) ∨ some i = v.ownBlock) w (w6.alloc o) := (h6.trans (T2 := fun _ => False) (Chg.of_below (box_below _ _)) (fun _ _ h => h.elim)).trans (T2 := fun _ => False) (Chg.refl _ _) (fun _ _ h => h.elim) |> fun h => ⟨h.os, h.tape, h.output, h.size, fun k hk ht => h.block k hk (fun h => ht (.inl h))⟩
    exact (h1.grown hg7 (fun i hi _ => .inr hi.symm)).setCell (fun _ => .inl (.inl rfl)) _
  have hM : Mut B0 w (w7.setCell ⟨bm, 0, none⟩ v7) := hC.mut (fun i hi ht => by
    rcases ht with (rfl | rfl) | ht
    · exact not_imm_of hm hB (fun c t fr h => by injection h with _ h; subst h; rfl)
    · exact hbN2 hi
    · exact own_not_imm hv ht)
  refine ⟨⟨hB, fun b hb => ?_, v7, .map (some bN), set_two0 hm7, ?_, .inr ⟨bN, rfl, hbN, ?_⟩⟩, hM, nk_fin hm (set_two0 hm7) hC hbN3 hv⟩
  · rcases hb with hb | hb
    · exact ⟨Nat.lt_of_lt_of_le (hS b hb).1 hM.size, (hS b hb).2.mut (hS b hb).1 hM⟩
    · exact ⟨Nat.lt_of_lt_of_le (hS2 b hb).1 hM.size, (hS2 b hb).2.mut (hS2 b hb).1 hM⟩
  · have hAg : Agree S w (w7.setCell ⟨bm, 0, none⟩ v7) := fun b hb hs => hM.block b hb (hS b hs).2
    have hAg2 : Agree S2 w (w7.setCell ⟨bm, 0, none⟩ v7) := fun b hb hs => hM.block b hb (hS2 b hs).2
    have hr : Rows_ (NdR (fun b => S b ∨ S2 b) (w7.setCell ⟨bm, 0, none⟩ v7)) 4 (cells ++ ndCells x (.slice A2 x.cuts.length c2) (.slice A3 x.kids.length c3)) (l ++ [x]) :=
      (hrows.imp (fun y _ cs hy => NdR.keep hy hM.size hAg (fun _ _ h => .inl h))).snoc rfl ⟨_, _, rfl, hN.fact, hN.cuts.keep hM.size hAg2 (fun _ _ h => .inr h), hN.kids.keep hM.size hAg2 (fun _ _ h => .inr h)⟩
    have ho : OwnAt w7 B0 55 4 (NdR (fun b => S b ∨ S2 b) (w7.setCell ⟨bm, 0, none⟩ v7)) v7 (l ++ [x]) := ⟨_, by simpa using hown7, hr⟩
    exact ho.keep (fun k hk _ => set_cell_oth (by dsimp only; rintro rfl; exact hbmv7 hk.symm)) (fun _ _ _ h => h)
  · rw [tabM_snoc]
    have hmo : some bN ≠ v.ownBlock := by
      obtain ⟨es, cl, h1, _⟩ := hmap
      exact own_neO hv6 h1 (by rintro c fr h; cases h)
    have hne : bN ≠ bm := by
      rintro rfl
      obtain ⟨es, cl, h1, _⟩ := hmap
      rw [hm6] at h1; injection h1 with h1; cases h1
    exact hmap.keep ((set_cell_oth hne).trans ((hg7.block bN (by have := hmap.lt; simp; omega) hmo).trans (Below.heap_alloc _ _ _ hmap.lt)))
set_option maxRecDepth 100000 in
set_option maxHeartbeats 2000000 in
theorem index_none (S S2 : Nat → Prop) (B0 bm : Nat) (x : Nd) (A2 : Option Addr) (c2 : Nat) (A3 : Option Addr) (c3 : Nat) (w : World) (v : Value) (hs : (bytesOf (writeS x)).size ≤ 140737488351232)
    (hm : w.heap[bm]? = some (.cells #[v, .map none] 69 (0, 0))) (hv : OwnAt w B0 55 4 (NdR S w) v []) (hB : B0 ≤ bm) (hS : ∀ b, S b → b < w.heap.size ∧ Imm B0 w b) (hN : NdIn S2 w x A2 c2 A3 c3) (hS2 : ∀ b, S2 b → b < w.heap.size ∧ Imm B0 w b) :
    Calls Tryz.prog 86 #[.pointer (some ⟨bm, 0, none⟩), .string (bytesOf (writeS x)), ndV x A2 c2 A3 c3] w fun e w' => e = .returned (.int .i64 0) ∧ MkAt (fun b => S b ∨ S2 b) w' B0 bm [x] ∧ Mut B0 w w' ∧ NK bm w w' := by
  obtain ⟨A, c, rfl⟩ := hv.shape
  obtain ⟨m0, m1, mf⟩ := two_ hm
  have lm := blt_ hm
  have hmm := @run_makeMap Tryz.prog
  have hem := eqMapNil
  obtain ⟨W1, hW1⟩ : ∃ W1, W1 = (w.setCell ⟨bm, 1, none⟩ (.map (some (w.heap.size + 1)))).alloc (.cells #[.bool x.leaf, .int .i64 x.fact, .slice A2 x.cuts.length c2, .slice A3 x.kids.length c3] 55) := ⟨_, rfl⟩
  have hz1 : W1.heap.size = w.heap.size + 1 := by rw [hW1]; simp
  have hmade := MapAt.made (P := Tryz.prog) (kt := 9) (emb := Value.string) (emv := fun i : Nat => Value.int .i64 (i : Int)) W1
  rw [hz1] at hmade
  have hlk := MapAt.look hmade keyed9 Tryz.underlying65 strInj (keyStr hs) (zero3 _) true
  have hput := MapAt.put hmade keyed9 Tryz.underlying65 strInj (keyStr hs) rfl 0
  rw [show mget ([] : List (ByteArray × Nat)) (bytesOf (writeS x)) = none from rfl] at hlk
  simp only [if_true] at hlk
  have HM := Lib.hid (show (W1.alloc (.map #[] 0)).heap[bm]? = some (.cells #[.slice A [].length c, .map (some (w.heap.size + 1))] 69 (0, 0)) from old_ (by rw [hW1]; exact old_ (set_two hm)))
  have HBX := Lib.hid (show (W1.alloc (.map #[] 0)).heap[w.heap.size]? = some (.cells #[.bool x.leaf, .int .i64 x.fact, .slice A2 x.cuts.length c2, .slice A3 x.kids.length c3] 55 (0, 0)) from old_ (by rw [hW1]; have := new_ (w.setCell ⟨bm, 1, none⟩ (.map (some (w.heap.size + 1)))) (.cells #[.bool x.leaf, .int .i64 x.fact, .slice A2 x.cuts.length c2, .slice A3 x.kids.length c3] 55); rwa [size_setCell] at this))
  have HKP := Lib.hid (show ∀ k, k < w.heap.size → k ≠ bm → (W1.alloc (.map #[] 0)).heap[k]? = w.heap[k]? from fun k h1 h2 => (Below.heap_alloc _ _ _ (by omega)).trans (by rw [hW1]; exact (Below.heap_alloc _ _ _ (by rw [size_setCell]; exact h1)).trans (set_cell_oth h2)))
  have HOW := Lib.hid (show OwnAt (W1.alloc (.map #[] 0)) B0 55 4 (NdR S w) (.slice A [].length c) [] from hv.keep (fun k hk hlt => by
    by_cases hkb : k = bm
    · subst hkb
      rcases hv with ⟨_, ⟨_, h⟩, _⟩
      rcases h with ⟨h, _⟩ | ⟨g, cap, cur, h, _, hh, _⟩
      · rw [h] at hk; cases hk
      · rw [h] at hk
        simp [Value.ownBlock] at hk
        subst hk
        rw [hh] at hm
        injection hm with hm
        injection hm with _ hm
        cases hm
    · exact HKP.out k hlt hkb) (fun _ _ _ h => h))
  obtain ⟨i0, hi, hzz⟩ := Option.map_eq_some_iff.1 info55
  simp only [Prod.mk.injEq] at hzz
  obtain ⟨hz0, hz11, hz2⟩ := hzz
  have HS1 := Lib.hid hz1
  have HL1 := Lib.hid hW1
  have HCH := Lib.hid (show Chg (fun i => i = bm) w (W1.alloc (.map #[] 0)) from by rw [hW1]; exact (((Chg.refl (fun i => i = bm) w).setCell (p := ⟨bm, 1, none⟩) (fun _ => rfl) _).alloc _).alloc _)
  rw [hW1] at hlk hput
  have HPUT := Lib.hid hput
  clear hput hmade
  go_enter Tryz.func86, Tryz.ntmps86
  go_wp2_with (at_mapUpdate; refine put_op rfl 65 (.tmp 37) (.tmp 38) (.tmp 39) rfl rfl rfl rfl HPUT.out ?_)
  rw [← hW1]
  clear hlk hW1 m0 m1 mf hz1
  intro w6 hmap hgr
  have HM6 := Lib.hid ((hgr.block bm (blt_ HM.out) (by simp; omega)).trans HM.out)
  have HX6 := Lib.hid ((hgr.block w.heap.size (blt_ HBX.out) (by simp)).trans HBX.out)
  obtain ⟨m0, m1, mf⟩ := two_ HM6.out
  obtain ⟨s0, s1, s2, s3, _⟩ := four_ HX6.out
  have lm6 := blt_ HM6.out
  have lx6 := blt_ HX6.out
  obtain ⟨cells, hown0, hrows⟩ := HOW.out
  have hmb : (W1.alloc (.map #[] 0)).heap[w.heap.size + 1]? = some (.map #[] 0) := by rw [← HS1.out]; exact new_ _ _
  have hnb := own_neO hown0 hmb (by rintro c fr h; cases h)
  have hown : w6.ownsRow B0 55 4 (.slice A ([] : List Nd).length c) ([] : List Nd).length cells := by
    rcases hown0 with ⟨h1, h2⟩
    refine ⟨h1, ?_⟩
    rcases h2 with h2 | ⟨g, cap, cur, he, hg, hh, hr⟩
    · exact .inl h2
    · refine .inr ⟨g, cap, cur, he, hg, (hgr.block g (blt_ hh) (fun e => ?_)).trans hh, hr⟩
      rw [he] at hnb
      injection e with e
      exact hnb (by rw [← e]; rfl)
  have HOWN := Lib.hid hown
  have HROW := Lib.hid hrows
  have HMAP := Lib.hid hmap
  have HGR := Lib.hid hgr
  clear hown hrows hmap hgr HM HBX HPUT
  go_wp2_with fail
  go_region_law (first | (refine step_append_lies _ rfl (.tmp 44) (.tmp 46) 32 rfl B0 55 i0 _ 4 64 Tryz.underlying32 hi hz0 hz11 hz2 rfl (by decide) (.slice A [].length c) [].length cells (by simp [Act.eval]) (HOWN.out.alloc _) ⟨w6.heap.size, 0, none⟩ 1 1 [.bool x.leaf, .int .i64 x.fact, .slice A2 x.cuts.length c2, .slice A3 x.kids.length c3] (by simp [Act.eval]) rfl (World.news_of_block (new_ w6 (.cells #[.bool x.leaf, .int .i64 x.fact, .slice A2 x.cuts.length c2, .slice A3 x.kids.length c3] 55))) (by simp [Value.oneCell']) (by decide) (by simp [maxLen]) (by simp) (by have := lm6; simp; omega) _ rfl ?_; intro g7 cap7 w7 hown7 hg7 hat7 hlt7; have HM7 := Lib.hid ((hg7.block bm (by simp; omega) (own_neO HOWN.out HM6.out (by rintro c fr h; cases h))).trans (old_ HM6.out)); have HO7 := Lib.hid hown7; have HG7 := Lib.hid hg7; clear hown7 hg7; obtain ⟨m07, m17, mf7⟩ := two_ HM7.out; have lm7 := blt_ HM7.out))
  all_goals
    have HGG := Lib.hid (grown_drew HG7.out)
    go_wp2_with fail
    go_ret
    refine ⟨rfl, ?_⟩
    obtain ⟨cells0, hv0, hr0⟩ := hv
    have hcc : cells = [] := by have := HROW.out.1; simpa using this
    have hcc0 : cells0 = [] := by have := hr0.1; simpa using this
    subst hcc hcc0
    exact mk_fin (l := []) hm hB hS hS2 hN hv0 HROW.out (by have := blt_ hm; omega) (fun h => by omega) (.inr (by omega)) (chgA HCH.out HGR.out) HM6.out HMAP.out _ HGG.out HOWN.out HO7.out
end Go.Proofs.YtfajbcjcigajfaaGreatDoor
