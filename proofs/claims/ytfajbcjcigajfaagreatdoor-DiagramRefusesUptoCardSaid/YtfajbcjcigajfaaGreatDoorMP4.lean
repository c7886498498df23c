/- Part of the proof of a law of customhouselaw26: the texts P4. -/
import Derived.Test.YtfajbcjcigajfaaGreatDoorMG3
import Derived.Test.YtfajbcjcigajfaaGreatDoorMP1P2P3
/- Plain law, fourth part: a table with one more node; what inner adds. -/
namespace Go.Proofs.YtfajbcjcigajfaaGreatDoor

theorem tb_nil (T : Int → Tr) : Tb [] T :=
  ⟨fun k hk => by have := hk.1; have := hk.2; simp at *; omega, fun k hk => by have := hk.1; have := hk.2; simp at *; omega, fun k hk => by have := hk.1; have := hk.2; simp at *; omega, fun k hk => by have := hk.1; have := hk.2; simp at *; omega, fun i j hi => by have := hi.1; have := hi.2; simp at *; omega⟩
theorem unN_congr {n : Nd} {T T' : Int → Tr} (h : ∀ c ∈ n.kids, T c = T' c) : unN n T = unN n T' := by
  by_cases h0 : n.kids = []
  · rw [unN_nil T h0, unN_nil T' h0]
  · rw [unN_cons T h0, unN_cons T' h0, List.map_congr_left h]
/-- A node of the form that the program makes: its kids in l. -/
structure NodeOk (l : List Nd) (x : Nd) : Prop where
  rng : ∀ c ∈ x.kids, InR l c
  bare : x.kids = [] → x.fact = 0 ∧ x.cuts = []
  full : x.kids ≠ [] → x.leaf = false
theorem Tb.ok {l : List Nd} {T : Int → Tr} (h : Tb l T) {k : Int} (hk : InR l k) : NodeOk l (ndAt l k) := ⟨h.rng k hk, h.bare k hk, h.full k hk⟩
theorem map_inj_on {l : List Nd} {T : Int → Tr} (h : Tb l T) : ∀ (a b : List Int), (∀ c ∈ a, InR l c) → (∀ c ∈ b, InR l c) → a.map T = b.map T → a = b
  | [], [], _, _, _ => rfl
  | [], y :: b, _, _, e => by simp at e
  | x :: a, [], _, _, e => by simp at e
  | x :: a, y :: b, ha, hb, e => by
    simp only [List.map_cons, List.cons.injEq] at e
    rw [h.inj x y (ha x (by simp)) (hb y (by simp)) e.1, map_inj_on h a b (fun c hc => ha c (by simp [hc])) (fun c hc => hb c (by simp [hc])) e.2]
theorem unN_inj {l : List Nd} {T : Int → Tr} (h : Tb l T) {x y : Nd} (hx : NodeOk l x) (hy : NodeOk l y) (e : unN x T = unN y T) : x = y := by
  obtain ⟨xl, xf, xc, xk⟩ := x
  obtain ⟨yl, yf, yc, yk⟩ := y
  by_cases h0 : xk = []
  · by_cases h1 : yk = []
    · subst h0 h1
      rw [unN_nil T rfl, unN_nil T rfl] at e
      injection e with e
      obtain ⟨a1, a2⟩ := hx.bare rfl
      obtain ⟨b1, b2⟩ := hy.bare rfl
      simp only at a1 a2 b1 b2 e
      rw [e, a1, a2, b1, b2]
    · rw [unN_nil T h0, unN_cons T h1] at e; cases e
  · by_cases h1 : yk = []
    · rw [unN_cons T h0, unN_nil T h1] at e; cases e
    · rw [unN_cons T h0, unN_cons T h1] at e
      injection e with e1 e2 e3
      have a := hx.full h0
      have b := hy.full h1
      have := map_inj_on h _ _ hx.rng hy.rng e3
      simp only at a b e1 e2 this
      rw [a, b, e1, e2, this]
theorem findN_some {l : List Nd} {x : Nd} {i : Nat} (h : findN l x = some i) : i < l.length ∧ ndAt l i = x := by
  unfold findN at h
  obtain ⟨hi, h1, _⟩ := List.findIdx?_eq_some_iff_getElem.1 h
  refine ⟨hi, ?_⟩
  have := (sameN_iff x l[i]).1 h1
  unfold ndAt
  rw [Int.toNat_natCast, List.getD_eq_getElem?_getD, List.getElem?_eq_getElem hi, this]
  rfl
theorem findN_none {l : List Nd} {x : Nd} (h : findN l x = none) : ∀ k, InR l k → ndAt l k ≠ x := by
  intro k hk e
  unfold findN at h
  have hlt : k.toNat < l.length := by have := hk.1; have := hk.2; omega
  have h1 := List.findIdx?_eq_none_iff.1 h l[k.toNat] (List.getElem_mem hlt)
  unfold ndAt at e
  rw [List.getD_eq_getElem?_getD, List.getElem?_eq_getElem hlt] at e
  simp only [Option.getD_some] at e
  rw [(sameN_iff x l[k.toNat]).2 e.symm] at h1
  cases h1
theorem ndAt_old {l : List Nd} {x : Nd} {k : Int} (hk : InR l k) : ndAt (l ++ [x]) k = ndAt l k := by
  have hlt : k.toNat < l.length := by have := hk.1; have := hk.2; omega
  unfold ndAt
  rw [List.getD_eq_getElem?_getD, List.getD_eq_getElem?_getD, List.getElem?_append_left hlt]
theorem ndAt_new (l : List Nd) (x : Nd) : ndAt (l ++ [x]) (l.length : Int) = x := by
  unfold ndAt
  rw [Int.toNat_natCast, List.getD_eq_getElem?_getD, List.getElem?_append_right (Nat.le_refl _)]
  simp
/-- One table goes on from another. -/
def Ext (l : List Nd) (T : Int → Tr) (l' : List Nd) (T' : Int → Tr) : Prop := l.length ≤ l'.length ∧ ∀ k, InR l k → T' k = T k ∧ InR l' k
theorem Ext.refl (l : List Nd) (T : Int → Tr) : Ext l T l T := ⟨Nat.le_refl _, fun _k hk => ⟨rfl, hk⟩⟩
theorem Ext.trans {l l' l'' : List Nd} {T T' T'' : Int → Tr} (h : Ext l T l' T') (k : Ext l' T' l'' T'') : Ext l T l'' T'' :=
  ⟨Nat.le_trans h.1 k.1, fun i hi => ⟨((k.2 i (h.2 i hi).2).1).trans (h.2 i hi).1, (k.2 i (h.2 i hi).2).2⟩⟩
theorem tb_node {l : List Nd} {T : Int → Tr} (h : Tb l T) {x : Nd} (hx : NodeOk l x) : ∃ T', Tb (addN l x) T' ∧ Ext l T (addN l x) T' ∧ T' (posN l x) = unN x T ∧ InR (addN l x) (posN l x) := by
  cases hf : findN l x with
  | some i =>
    obtain ⟨h1, h2⟩ := findN_some hf
    have ea : addN l x = l := by unfold addN; rw [hf]; rfl
    have ep : posN l x = i := by unfold posN; rw [hf]; rfl
    rw [ea, ep]
    have hi : InR l i := ⟨by omega, by omega⟩
    exact ⟨T, h, Ext.refl _ _, by rw [h.un _ hi, h2], hi⟩
  | none =>
    have hn := findN_none hf
    have ea : addN l x = l ++ [x] := by unfold addN; rw [hf]; rfl
    have ep : posN l x = l.length := by unfold posN; rw [hf]; rfl
    rw [ea, ep]
    have hlen : ((l ++ [x]).length : Int) = (l.length : Int) + 1 := by simp
    have hTo : ∀ k, InR l k → (fun k : Int => if k = (l.length : Int) then unN x T else T k) k = T k := fun k hk => by
      have := hk.2
      simp only
      rw [if_neg (by omega)]
    have hTn : (fun k : Int => if k = (l.length : Int) then unN x T else T k) (l.length : Int) = unN x T := by simp
    generalize hT : (fun k : Int => if k = (l.length : Int) then unN x T else T k) = T' at hTo hTn
    have hsp : ∀ k, InR (l ++ [x]) k → InR l k ∨ k = l.length := fun k hk => by
      have h1 := hk.1
      have h2 := hk.2
      rw [hlen] at h2
      by_cases e : k = l.length
      · exact .inr e
      · exact .inl ⟨h1, by omega⟩
    have hup : ∀ k, InR l k → InR (l ++ [x]) k := fun k hk => ⟨hk.1, by rw [hlen]; have := hk.2; omega⟩
    refine ⟨T', ⟨fun k hk => ?_, fun k hk => ?_, fun k hk => ?_, fun k hk => ?_, fun i j hi hj e => ?_⟩, ⟨by simp, fun k hk => ⟨hTo k hk, hup k hk⟩⟩, hTn, ⟨by omega, by rw [hlen]; omega⟩⟩
    · rcases hsp k hk with hk | rfl
      · rw [hTo k hk, ndAt_old hk, h.un k hk]
        exact unN_congr (fun c hc => (hTo c (h.rng k hk c hc)).symm)
      · rw [hTn, ndAt_new]
        exact unN_congr (fun c hc => (hTo c (hx.rng c hc)).symm)
    · rcases hsp k hk with hk | rfl
      · rw [ndAt_old hk]; exact fun c hc => hup c (h.rng k hk c hc)
      · rw [ndAt_new]; exact fun c hc => hup c (hx.rng c hc)
    · rcases hsp k hk with hk | rfl
      · rw [ndAt_old hk]; exact h.bare k hk
      · rw [ndAt_new]; exact hx.bare
    · rcases hsp k hk with hk | rfl
      · rw [ndAt_old hk]; exact h.full k hk
      · rw [ndAt_new]; exact hx.full
    · rcases hsp i hi with hi | rfl <;> rcases hsp j hj with hj | rfl
      · rw [hTo i hi, hTo j hj] at e; exact h.inj i j hi hj e
      · rw [hTo i hi, hTn, h.un i hi] at e
        exact absurd (unN_inj h (h.ok hi) hx e) (hn i hi)
      · rw [hTo j hj, hTn, h.un j hj] at e
        exact absurd (unN_inj h (h.ok hj) hx e.symm) (hn j hj)
      · rfl
/-- What inner answers, and the table behind it. -/
def innerK (l : List Nd) (i : Int) (starts kids : List Int) : Int × List Nd :=
  match innerR (kids.headD 0) starts.tail kids.tail with
  | (_, []) => (kids.headD 0, l)
  | (cs, k :: ks) => ((posN l ⟨false, i, cs, kids.headD 0 :: k :: ks⟩ : Nat), addN l ⟨false, i, cs, kids.headD 0 :: k :: ks⟩)
theorem innerK_nil {l : List Nd} {i s0 : Int} {ss : List Int} {k0 : Int} {ks : List Int} (h : (innerR k0 ss ks).2 = []) : innerK l i (s0 :: ss) (k0 :: ks) = (k0, l) := by
  unfold innerK
  simp only [List.headD_cons, List.tail_cons]
  generalize innerR k0 ss ks = p at h
  obtain ⟨a, b⟩ := p
  simp only at h
  subst h
  rfl
theorem innerK_cons {l : List Nd} {i s0 : Int} {ss : List Int} {k0 : Int} {ks : List Int} (h : (innerR k0 ss ks).2 ≠ []) : innerK l i (s0 :: ss) (k0 :: ks) = (((posN l ⟨false, i, (innerR k0 ss ks).1, k0 :: (innerR k0 ss ks).2⟩ : Nat) : Int), addN l ⟨false, i, (innerR k0 ss ks).1, k0 :: (innerR k0 ss ks).2⟩) := by
  unfold innerK
  simp only [List.headD_cons, List.tail_cons]
  generalize innerR k0 ss ks = p at h
  obtain ⟨a, b⟩ := p
  simp only at h
  cases b with
  | nil => exact absurd rfl h
  | cons x b => rfl
/-- inner, told of trees. -/
theorem inner_tb {fs : List Fc} {l : List Nd} {T : Int → Tr} (h : Tb l T) {i : Int} {s0 : Int} {ss : List Int} {k0 : Int} {ks : List Int} (_h0 : 0 ≤ i) (hi : i < fs.length) (hs0 : s0 = loF fs i) (hA : Asc (hiF fs i) s0 ss) (hl : ks.length = ss.length)
    (hr : ∀ k ∈ k0 :: ks, InR l k ∧ Can fs (i + 1) (T k)) :
    ∃ T', Tb (innerK l i (s0 :: ss) (k0 :: ks)).2 T' ∧ Ext l T (innerK l i (s0 :: ss) (k0 :: ks)).2 T' ∧ InR (innerK l i (s0 :: ss) (k0 :: ks)).2 (innerK l i (s0 :: ss) (k0 :: ks)).1 ∧
      Can fs i (T' (innerK l i (s0 :: ss) (k0 :: ks)).1) ∧ ∀ g, evT g (T' (innerK l i (s0 :: ss) (k0 :: ks)).1) = evT g (kidAt ss ((k0 :: ks).map T) (g i)) := by
  classical
  have hm := innerR_map T ss ks k0 (fun x hx y hy e => h.inj x y (hr x hx).1 (hr y hy).1 e)
  have hkids : ∀ t ∈ T k0 :: ks.map T, Can fs (i + 1) t := by
    intro t ht
    rw [← List.map_cons] at ht
    obtain ⟨k, hk, rfl⟩ := List.mem_map.1 ht
    exact (hr k hk).2
  have hkd := fun v => innerR_kid (hi := hiF fs i) ss (ks.map T) (T k0) s0 v
  by_cases hp : (innerR k0 ss ks).2 = []
  · rw [innerK_nil hp]
    refine ⟨T, h, Ext.refl _ _, (hr k0 (by simp)).1, (hr k0 (by simp)).2.mono (by omega), fun g => ?_⟩
    have h1 := hkd (g i) hA (by simpa using hl)
    rw [hm] at h1
    simp only [hp, List.map_nil] at h1
    rw [List.map_cons, ← h1]
    have h2 := innerR_len ss ks k0
    rw [hp] at h2
    rw [List.eq_nil_of_length_eq_zero h2, kid_nil]
  · rw [innerK_cons hp]
    have hx : NodeOk l ⟨false, i, (innerR k0 ss ks).1, k0 :: (innerR k0 ss ks).2⟩ := ⟨fun c hc => by
      rcases List.mem_cons.1 hc with rfl | hc
      · exact (hr c (by simp)).1
      · exact (hr c (by simp [(innerR_sub ss ks k0).2 hc])).1, fun e => by simp at e, fun _ => rfl⟩
    obtain ⟨T', t1, t2, t3, t4⟩ := tb_node h hx
    have htr : T' (posN l ⟨false, i, (innerR k0 ss ks).1, k0 :: (innerR k0 ss ks).2⟩ : Nat) = .ask i (innerR (T k0) ss (ks.map T)).1 (T k0 :: (innerR (T k0) ss (ks.map T)).2) := by
      rw [t3, unN_cons T (by simp), hm]
      simp
    have hcan := mk_can (fs := fs) (i := i) (ss := ss) (k0 := T k0) (ks := ks.map T) hi (by rw [← hs0]; exact hA) (by simpa using hl) hkids (by rw [hm]; simpa using hp)
    refine ⟨T', t1, t2, t4, by rw [htr]; exact hcan, fun g => ?_⟩
    rw [htr, (ev_ask hcan g).1, hkd (g i) hA (by simpa using hl), List.map_cons]
end Go.Proofs.YtfajbcjcigajfaaGreatDoor
