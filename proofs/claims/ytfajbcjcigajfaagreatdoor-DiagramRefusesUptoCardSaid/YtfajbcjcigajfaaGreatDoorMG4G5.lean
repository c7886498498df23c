/- Part of the proof of a law of customhouselaw26: the texts G4 G5. -/
import Derived.Test.YtfajbcjcigajfaaGreatDoorMG3
namespace Go.Proofs.YtfajbcjcigajfaaGreatDoor
open Go.RowKit Go.Maps

theorem MkAt.keep {S : Nat → Prop} {w w' : World} {B0 bm : Nat} {l : List Nd} (h : MkAt S w B0 bm l) (hb : Below w.heap.size w w') : MkAt S w' B0 bm l := by
  obtain ⟨v, atv, hm, ho, hat⟩ := h.mem
  have hM : Mut B0 w w' := Mut.of_below hb
  refine ⟨h.base, fun b hb' => ⟨Nat.lt_of_lt_of_le (h.foot b hb').1 hb.size, (h.foot b hb').2.mut (h.foot b hb').1 hM⟩, v, atv, below_ hb hm, ho.keep (fun k _ hk => hb.block k hk) (fun x _ cs hx => NdR.keep hx hb.size (Agree.of_below hb) (fun _ _ h => h)), ?_⟩
  rcases hat with hat | ⟨b, h1, h2, h3⟩
  · exact .inl hat
  · exact .inr ⟨b, h1, h2, h3.below hb⟩
theorem MkAt.wide {S S2 : Nat → Prop} {w : World} {B0 bm : Nat} {l : List Nd} (h : MkAt S w B0 bm l) (hS2 : ∀ b, S2 b → b < w.heap.size ∧ Imm B0 w b) : MkAt (fun b => S b ∨ S2 b) w B0 bm l := by
  obtain ⟨v, atv, hm, ho, hat⟩ := h.mem
  exact ⟨h.base, fun b hb => hb.elim (h.foot b) (hS2 b), v, atv, hm, ho.keep (fun _ _ _ => rfl) (fun x _ cs hx => NdR.keep hx (Nat.le_refl _) (fun _ _ _ => rfl) (fun _ _ h => .inl h)), hat⟩
set_option maxRecDepth 100000 in
set_option maxHeartbeats 2000000 in
theorem index_some (S S2 : Nat → Prop) (B0 bm bN : Nat) (l : List Nd) (x : Nd) (A2 : Option Addr) (c2 : Nat) (A3 : Option Addr) (c3 : Nat) (w : World) (v : Value) (hs : (bytesOf (writeS x)).size ≤ 140737488351232) (hl : l.length ≤ 100000000)
    (hM : MkAt S w B0 bm l) (hm : w.heap[bm]? = some (.cells #[v, .map (some bN)] 69 (0, 0))) (hv : OwnAt w B0 55 4 (NdR S w) v l) (hbN : B0 ≤ bN) (hmp : MapAt Tryz.prog 9 w bN Value.string (fun i : Nat => .int .i64 (i : Int)) (tabM l)) (hN : NdIn S2 w x A2 c2 A3 c3) (hS2 : ∀ b, S2 b → b < w.heap.size ∧ Imm B0 w b) :
    Calls Tryz.prog 86 #[.pointer (some ⟨bm, 0, none⟩), .string (bytesOf (writeS x)), ndV x A2 c2 A3 c3] w fun e w' => e = .returned (.int .i64 (posN l x)) ∧ MkAt (fun b => S b ∨ S2 b) w' B0 bm (addN l x) ∧ Mut B0 w w' ∧ NK bm w w' := by
  have hB := hM.base
  have hS := hM.foot
  obtain ⟨A, c, rfl⟩ := hv.shape
  obtain ⟨m0, m1, mf⟩ := two_ hm
  have lm := blt_ hm
  have hem := eqMapNil
  have hmp1 := hmp.alloc (.cells #[.bool x.leaf, .int .i64 x.fact, .slice A2 x.cuts.length c2, .slice A3 x.kids.length c3] 55)
  have hlk := MapAt.look hmp1 keyed9 Tryz.underlying65 strInj (keyStr hs) (zero3 _) true
  rw [mget_tab] at hlk
  have HA := Lib.hid (show addN l x = if (findN l x).isSome then l else l ++ [x] from rfl)
  have HP := Lib.hid (show posN l x = (findN l x).getD l.length from rfl)
  cases hf : findN l x with
  | some i =>
    rw [hf] at hlk
    simp only [if_true] at hlk
    have HA2 := Lib.hid (show addN l x = l by rw [HA.out, hf]; rfl)
    have HP2 := Lib.hid (show posN l x = i by rw [HP.out, hf]; rfl)
    clear hf hmp hmp1
    go_enter Tryz.func86, Tryz.ntmps86
    go_wp2_with fail
    go_ret
    refine ⟨by rw [HP2.out]; rfl, ?_, Mut.of_below (box_below _ _), NK.of_below lm (box_below _ _)⟩
    rw [HA2.out]
    exact (hM.wide hS2).keep (box_below _ _)
  | none =>
    rw [hf] at hlk
    simp only [if_true] at hlk
    have HA2 := Lib.hid (show addN l x = l ++ [x] by rw [HA.out, hf]; rfl)
    have HP2 := Lib.hid (show posN l x = l.length by rw [HP.out, hf]; rfl)
    have HPUT := Lib.hid (MapAt.put hmp1 keyed9 Tryz.underlying65 strInj (keyStr hs) (by rw [mget_tab, hf]) l.length)
    have HNI := Lib.hid (show ¬ Imm B0 w bN by
      obtain ⟨es, cl, h1, _⟩ := hmp
      exact not_imm_of h1 hbN (by rintro c t fr h; cases h))
    have HMB := Lib.hid (show ∃ es cl, w.heap[bN]? = some (.map es cl) by
      obtain ⟨es, cl, h1, _⟩ := hmp
      exact ⟨es, cl, h1⟩)
    have HNE := Lib.hid (show bN ≠ bm by
      rintro rfl
      obtain ⟨es, cl, h1, _⟩ := hmp
      rw [hm] at h1; injection h1 with h1; cases h1)
    have HNL := Lib.hid hmp.lt
    obtain ⟨cells, hv0, hrows⟩ := hv
    have HNO := Lib.hid (show some bN ≠ (Value.slice A l.length c).ownBlock by
      obtain ⟨es, cl, h1, _⟩ := hmp
      exact own_neO hv0 h1 (by rintro c fr h; cases h))
    clear hf hmp hmp1
    obtain ⟨i0, hi, hzz⟩ := Option.map_eq_some_iff.1 info55
    simp only [Prod.mk.injEq] at hzz
    obtain ⟨hz0, hz11, hz2⟩ := hzz
    have HOW := Lib.hid (hv0.alloc (.cells #[.bool x.leaf, .int .i64 x.fact, .slice A2 x.cuts.length c2, .slice A3 x.kids.length c3] 55))
    have HV0 := Lib.hid hv0
    have HROW := Lib.hid hrows
    clear hv0 hrows
    go_enter Tryz.func86, Tryz.ntmps86
    go_wp2_with (at_mapUpdate; refine put_op rfl 65 (.tmp 37) (.tmp 38) (.tmp 39) rfl rfl rfl rfl HPUT.out ?_)
    clear hlk m0 m1 mf
    intro w6 hmap hgr
    have HM6 := Lib.hid ((hgr.block bm (by simp; omega) (by have := HNE.out; simp; omega)).trans (old_ hm))
    have HX6 := Lib.hid ((hgr.block w.heap.size (by simp) (by have := HNL.out; simp; omega)).trans (new_ w (.cells #[.bool x.leaf, .int .i64 x.fact, .slice A2 x.cuts.length c2, .slice A3 x.kids.length c3] 55)))
    obtain ⟨m0, m1, mf⟩ := two_ HM6.out
    obtain ⟨s0, s1, s2, s3, _⟩ := four_ HX6.out
    have lm6 := blt_ HM6.out
    have lx6 := blt_ HX6.out
    have hown : w6.ownsRow B0 55 4 (.slice A l.length c) l.length cells := by
      have hnb := HNO.out
      rcases HOW.out with ⟨h1, h2⟩
      refine ⟨h1, ?_⟩
      rcases h2 with h2 | ⟨g, cap, cur, he, hg, hh, hr⟩
      · exact .inl h2
      · refine .inr ⟨g, cap, cur, he, hg, (hgr.block g (blt_ hh) (fun e => ?_)).trans hh, hr⟩
        rw [he] at hnb
        injection e with e
        exact hnb (by rw [← e]; rfl)
    have HOWN := Lib.hid hown
    have HMAP := Lib.hid hmap
    have HCH := Lib.hid (chgA ((Chg.refl (fun i => i = bm) w).alloc _) hgr)
    clear hown hmap hgr HPUT
    go_wp2_with fail
    go_region_law (first | (refine step_append_lies _ rfl (.tmp 44) (.tmp 46) 32 rfl B0 55 i0 _ 4 64 Tryz.underlying32 hi hz0 hz11 hz2 rfl (by decide) (.slice A l.length c) l.length cells (by simp [Act.eval]) (HOWN.out.alloc _) ⟨w6.heap.size, 0, none⟩ 1 1 [.bool x.leaf, .int .i64 x.fact, .slice A2 x.cuts.length c2, .slice A3 x.kids.length c3] (by simp [Act.eval]) rfl (World.news_of_block (new_ w6 (.cells #[.bool x.leaf, .int .i64 x.fact, .slice A2 x.cuts.length c2, .slice A3 x.kids.length c3] 55))) (by simp [Value.oneCell']) (by decide) (by simp only [maxLen]; omega) (by omega) (by have := lm6; simp; omega) _ rfl ?_; intro g7 cap7 w7 hown7 hg7 hat7 hlt7; have HM7 := Lib.hid ((hg7.block bm (by simp; omega) (own_neO HOWN.out HM6.out (by rintro c fr h; cases h))).trans (old_ HM6.out)); have HO7 := Lib.hid hown7; have HG7 := Lib.hid hg7; clear hown7 hg7; obtain ⟨m07, m17, mf7⟩ := two_ HM7.out; have lm7 := blt_ HM7.out))
    all_goals
      have HGG := Lib.hid (grown_drew HG7.out)
      go_wp2_with fail
      go_ret
      refine ⟨by rw [HP2.out]; rfl, ?_⟩
      rw [HA2.out]
      exact mk_fin hm hB hS hS2 hN HV0.out HROW.out hbN (fun _ => HNI.out) (.inl ⟨rfl, HMB.out⟩) HCH.out HM6.out HMAP.out _ HGG.out HOWN.out HO7.out
/-- The index of a node, in the table with it. -/
theorem index_any2 (S S2 : Nat → Prop) (B0 bm : Nat) (l : List Nd) (x : Nd) (A2 : Option Addr) (c2 : Nat) (A3 : Option Addr) (c3 : Nat) (w : World) (hs : (bytesOf (writeS x)).size ≤ 140737488351232) (hl : l.length ≤ 100000000)
    (hM : MkAt S w B0 bm l) (hN : NdIn S2 w x A2 c2 A3 c3) (hS2 : ∀ b, S2 b → b < w.heap.size ∧ Imm B0 w b) :
    Calls Tryz.prog 86 #[.pointer (some ⟨bm, 0, none⟩), .string (bytesOf (writeS x)), ndV x A2 c2 A3 c3] w fun e w' => e = .returned (.int .i64 (posN l x)) ∧ MkAt (fun b => S b ∨ S2 b) w' B0 bm (addN l x) ∧ Mut B0 w w' ∧ NK bm w w' := by
  obtain ⟨v, atv, hm, hv, hat⟩ := hM.mem
  rcases hat with ⟨rfl, rfl⟩ | ⟨bN, rfl, hbN, hmp⟩
  · exact index_none S S2 B0 bm x A2 c2 A3 c3 w v hs hm hv hM.base hM.foot hN hS2
  · exact index_some S S2 B0 bm bN l x A2 c2 A3 c3 w v hs hl hM hm hv hbN hmp hN hS2
end Go.Proofs.YtfajbcjcigajfaaGreatDoor
namespace Go.Proofs.YtfajbcjcigajfaaGreatDoor
open Go.RowKit Go.Maps

theorem write_size {x : Nd} (hf : I64 x.fact) (h1 : ∀ y ∈ x.cuts, I64 y) (h2 : ∀ y ∈ x.kids, I64 y) (hc : x.cuts.length ≤ 1000000) (hk : x.kids.length ≤ 1000000) : (bytesOf (writeS x)).size ≤ 140737488351232 := by
  have e1 := items_le h1
  have e2 := items_le h2
  have e3 := itoa_le hf
  show (writeS x).toArray.size ≤ _
  simp only [writeS, List.size_toArray, List.length_cons, List.length_append]
  omega
theorem NdIn.keep2 {S : Nat → Prop} {w w' : World} {B0 : Nat} {x : Nd} {A2 : Option Addr} {c2 : Nat} {A3 : Option Addr} {c3 : Nat} (h : NdIn S w x A2 c2 A3 c3) (hb : Below w.heap.size w w') (hS : ∀ b, S b → b < w.heap.size ∧ Imm B0 w b) : NdIn S w' x A2 c2 A3 c3 ∧ ∀ b, S b → b < w'.heap.size ∧ Imm B0 w' b :=
  ⟨⟨h.fact, h.cuts.keep hb.size (Agree.of_below hb) (fun _ _ h => h), h.kids.keep hb.size (Agree.of_below hb) (fun _ _ h => h)⟩, fun b hb' => ⟨Nat.lt_of_lt_of_le (hS b hb').1 hb.size, (hS b hb').2.mut (hS b hb').1 (Mut.of_below hb)⟩⟩
set_option maxRecDepth 100000 in
set_option maxHeartbeats 2000000 in
theorem node_any2 (S S2 : Nat → Prop) (B0 bm : Nat) (l : List Nd) (x : Nd) (A2 : Option Addr) (c2 : Nat) (A3 : Option Addr) (c3 : Nat) (w : World) (hc : x.cuts.length ≤ 1000000) (hk : x.kids.length ≤ 1000000) (hl : l.length ≤ 100000000)
    (hM : MkAt S w B0 bm l) (hN : NdIn S2 w x A2 c2 A3 c3) (hS2 : ∀ b, S2 b → b < w.heap.size ∧ Imm B0 w b) (ht : Tab w) :
    Calls Tryz.prog 40 #[.pointer (some ⟨bm, 0, none⟩), ndV x A2 c2 A3 c3] w fun e w' => e = .returned (.int .i64 (posN l x)) ∧ MkAt (fun b => S b ∨ S2 b) w' B0 bm (addN l x) ∧ Mut B0 w w' ∧ NK bm w w' := by
  have HSZ := Lib.hid (write_size hN.fact (ints_i64 hN.cuts) (ints_i64 hN.kids) hc hk)
  have LBM := Lib.hid (show bm < w.heap.size by
    obtain ⟨v, atv, h1, _⟩ := hM.mem
    exact blt_ h1)
  have HM := Lib.hid hM
  have HN := Lib.hid hN
  have HS2 := Lib.hid hS2
  have HT := Lib.hid ht
  clear hM hN hS2 ht
  go_enter Tryz.func40, Tryz.ntmps40
  go_wp2_with fail
  have hb0 : Below w.heap.size w (w.alloc (.cells #[.bool x.leaf, .int .i64 x.fact, .slice A2 x.cuts.length c2, .slice A3 x.kids.length c3] 55)).drew := (box_below w _).drew
  have HB0 := Lib.hid hb0
  have HX0 := Lib.hid (show (w.alloc (.cells #[.bool x.leaf, .int .i64 x.fact, .slice A2 x.cuts.length c2, .slice A3 x.kids.length c3] 55)).drew.heap[w.heap.size]? = some (.cells #[.bool x.leaf, .int .i64 x.fact, .slice A2 x.cuts.length c2, .slice A3 x.kids.length c3] 55 (0, 0)) from new_ w _)
  clear hb0
  go_region_with (first
    | (go_at_call 87; refine (write_any _ x A2 c2 A3 c3 _ (HN.out.keep HB0.out) hc hk (HT.out.keep HB0.out)).mono ?_; rintro e w2 ⟨rfl, hb2⟩; have HB2 := Lib.hid (bthen HB0.out hb2); have HX2 := Lib.hid (below_ hb2 HX0.out); clear hb2; obtain ⟨s0, s1, s2, s3, _⟩ := four_ HX2.out; have lx2 := blt_ HX2.out)
    | (go_at_call 86; refine (index_any2 S S2 B0 bm l x A2 c2 A3 c3 _ HSZ.out hl (HM.out.keep HB2.out) (HN.out.keep2 HB2.out HS2.out).1 (HN.out.keep2 HB2.out HS2.out).2).mono ?_; rintro e w3 ⟨rfl, hm3, hu3, hn3⟩; have HN3 := Lib.hid ((NK.of_below LBM.out HB2.out).trans hn3); have HM3 := Lib.hid hm3; have HU3 := Lib.hid ((Mut.of_below HB2.out).trans hu3); clear hm3 hu3 hn3))
  all_goals
    go_wp2_with fail
    go_ret
    exact ⟨rfl, HM3.out, HU3.out, HN3.out⟩
theorem node_any (S S2 : Nat → Prop) (B0 bm : Nat) (l : List Nd) (x : Nd) (A2 : Option Addr) (c2 : Nat) (A3 : Option Addr) (c3 : Nat) (w : World) (hc : x.cuts.length ≤ 1000000) (hk : x.kids.length ≤ 1000000) (hl : l.length ≤ 100000000)
    (hM : MkAt S w B0 bm l) (hN : NdIn S2 w x A2 c2 A3 c3) (hS2 : ∀ b, S2 b → b < w.heap.size ∧ Imm B0 w b) (ht : Tab w) :
    Calls Tryz.prog 40 #[.pointer (some ⟨bm, 0, none⟩), ndV x A2 c2 A3 c3] w fun e w' => e = .returned (.int .i64 (posN l x)) ∧ MkAt (fun b => S b ∨ S2 b) w' B0 bm (addN l x) ∧ Mut B0 w w' := by
  refine (node_any2 S S2 B0 bm l x A2 c2 A3 c3 w hc hk hl hM hN hS2 ht).mono ?_
  rintro e w' ⟨h1, h2, h3, _⟩
  exact ⟨h1, h2, h3⟩
end Go.Proofs.YtfajbcjcigajfaaGreatDoor
