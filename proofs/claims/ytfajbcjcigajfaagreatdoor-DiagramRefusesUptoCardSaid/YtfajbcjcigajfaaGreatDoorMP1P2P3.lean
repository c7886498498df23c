/- Part of the proof of a law of customhouselaw26: the texts P1 P2 P3. -/
import Derived.Test.YtfajbcjcigajfaaGreatDoorMBasA2A3
/- Plain law, first part: the tree that a node of a table stands for; the order in which a diagram is written down. -/
namespace Go.Proofs.YtfajbcjcigajfaaGreatDoor
open Classical

/-- What a node stands for. -/
inductive Tr where
  | leaf (b : Bool)
  | ask (i : Int) (cuts : List Int) (kids : List Tr)
instance : Inhabited Tr := ⟨.leaf false⟩
def nd0 : Nd := ⟨false, 0, [], []⟩
instance : Inhabited Nd := ⟨nd0⟩
def ndAt (l : List Nd) (k : Int) : Nd := l.getD k.toNat nd0
def Tr.kids : Tr → List Tr
  | .leaf _ => []
  | .ask _ _ ks => ks
/-- A node, its kids' trees being T's. -/
def unN (n : Nd) (T : Int → Tr) : Tr := match n.kids with
  | [] => .leaf n.leaf
  | _ :: _ => .ask n.fact n.cuts (n.kids.map T)
theorem unN_nil {n : Nd} (T : Int → Tr) (h : n.kids = []) : unN n T = .leaf n.leaf := by unfold unN; rw [h]
theorem unN_cons {n : Nd} (T : Int → Tr) (h : n.kids ≠ []) : unN n T = .ask n.fact n.cuts (n.kids.map T) := by
  unfold unN
  cases hk : n.kids with
  | nil => exact absurd hk h
  | cons a l => rfl
theorem nodup_len {α : Type} [DecidableEq α] : ∀ (a b : List α), a.Nodup → a ⊆ b → a.length ≤ b.length
  | [], b, _, _ => Nat.zero_le _
  | x :: a, b, hn, hs => by
    have hx : x ∈ b := hs (by simp)
    have h1 := List.nodup_cons.1 hn
    have h2 := nodup_len a (b.erase x) h1.2 (fun y hy => (List.mem_erase_of_ne (fun e => h1.1 (by rw [← e]; exact hy))).2 (hs (by simp [hy])))
    rw [List.length_erase_of_mem hx] at h2
    have := List.length_pos_of_mem hx
    simp only [List.length_cons]; omega
theorem nodup_inj {α : Type} {l : List α} (h : l.Nodup) {i j : Nat} (hi : i < l.length) (hj : j < l.length) (e : l[i] = l[j]) : i = j := by
  have hp := List.pairwise_iff_getElem.1 (List.nodup_iff_pairwise_ne.1 h)
  rcases Nat.lt_trichotomy i j with h1 | h1 | h1
  · exact absurd e (hp i j hi hj h1)
  · exact h1
  · exact absurd e.symm (hp j i hj hi h1)
/-- The number k names a node of l. -/
def InR (l : List Nd) (k : Int) : Prop := 0 ≤ k ∧ k < l.length
/-- The table l, of whose nodes T tells the trees. -/
structure Tb (l : List Nd) (T : Int → Tr) : Prop where
  un : ∀ k, InR l k → T k = unN (ndAt l k) T
  rng : ∀ k, InR l k → ∀ c ∈ (ndAt l k).kids, InR l c
  bare : ∀ k, InR l k → (ndAt l k).kids = [] → (ndAt l k).fact = 0 ∧ (ndAt l k).cuts = []
  full : ∀ k, InR l k → (ndAt l k).kids ≠ [] → (ndAt l k).leaf = false
  inj : ∀ i j, InR l i → InR l j → T i = T j → i = j

/-! ### the order -/
def visitL (l : List Nd) : Nat → List Int → Int → List Int
  | 0, o, _ => o
  | f + 1, o, k => if k ∈ o then o else (ndAt l k).kids.foldl (visitL l f) (o ++ [k])
def posI (o : List Int) (k : Int) : Int := (o.idxOf k : Nat)
/-- The nodes in their order, their kids renamed. -/
def serL (l : List Nd) (o : List Int) : List Nd := o.map fun k => { ndAt l k with kids := (ndAt l k).kids.map (posI o) }
def fromL (l : List Nd) (r : Int) : List Nd := serL l (visitL l (l.length + 1) [] r)

mutual
noncomputable def visitT : List Tr → Tr → List Tr
  | o, .leaf b => if Tr.leaf b ∈ o then o else o ++ [.leaf b]
  | o, .ask i cs ks => if Tr.ask i cs ks ∈ o then o else visitTs (o ++ [.ask i cs ks]) ks
noncomputable def visitTs : List Tr → List Tr → List Tr
  | o, [] => o
  | o, t :: ts => visitTs (visitT o t) ts
end
theorem visitT_eq (o : List Tr) (t : Tr) : visitT o t = if t ∈ o then o else visitTs (o ++ [t]) t.kids := by
  cases t <;> simp [visitT, visitTs, Tr.kids]
noncomputable def posT (o : List Tr) (t : Tr) : Int := (o.findIdx (fun s => decide (s = t)) : Nat)
noncomputable def ndT (o : List Tr) : Tr → Nd
  | .leaf b => ⟨b, 0, [], []⟩
  | .ask i cs ks => ⟨false, i, cs, ks.map (posT o)⟩
noncomputable def serT (o : List Tr) : List Nd := o.map (ndT o)

/-- What an order of numbers is to be: of nodes of l, none twice. -/
structure OrdOk (l : List Nd) (o : List Int) : Prop where
  nodup : o.Nodup
  rng : ∀ k ∈ o, InR l k
theorem OrdOk.nil (l : List Nd) : OrdOk l [] := ⟨by simp, by simp⟩
theorem OrdOk.snoc {l : List Nd} {o : List Int} (h : OrdOk l o) {k : Int} (hk : InR l k) (hn : k ∉ o) : OrdOk l (o ++ [k]) :=
  ⟨by rw [List.nodup_append]; exact ⟨h.nodup, by simp, fun a ha b hb e => by simp at hb; subst hb; subst e; exact hn ha⟩, fun c hc => by
    rcases List.mem_append.1 hc with hc | hc
    · exact h.rng c hc
    · rw [List.mem_singleton.1 hc]; exact hk⟩
theorem OrdOk.len {l : List Nd} {o : List Int} (h : OrdOk l o) : o.length ≤ l.length := by
  have h1 : (o.map Int.toNat).Nodup := by
    rw [List.nodup_iff_pairwise_ne, List.pairwise_map]
    refine List.Pairwise.imp_of_mem ?_ (List.nodup_iff_pairwise_ne.1 h.nodup)
    intro a b ha hb hne e
    exact hne (by have := (h.rng a ha).1; have := (h.rng b hb).1; omega)
  have h2 : o.map Int.toNat ⊆ List.range l.length := by
    intro x hx
    obtain ⟨k, hk, rfl⟩ := List.mem_map.1 hx
    have hr := h.rng k hk
    have a := hr.1
    have b := hr.2
    exact List.mem_range.2 (by omega)
  have := nodup_len _ _ h1 h2
  simpa using this
theorem mem_map_inj {l : List Nd} {T : Int → Tr} (h : Tb l T) {o : List Int} (ho : OrdOk l o) {k : Int} (hk : InR l k) : T k ∈ o.map T ↔ k ∈ o := by
  rw [List.mem_map]
  exact ⟨fun ⟨j, hj, e⟩ => by rw [← h.inj j k (ho.rng j hj) hk e]; exact hj, fun hj => ⟨k, hj, rfl⟩⟩
theorem Tb.kids {l : List Nd} {T : Int → Tr} (h : Tb l T) {k : Int} (hk : InR l k) : (T k).kids = (ndAt l k).kids.map T := by
  rw [h.un k hk]
  by_cases h0 : (ndAt l k).kids = []
  · rw [unN_nil T h0, h0]; rfl
  · rw [unN_cons T h0]; rfl
theorem visit_sim {l : List Nd} {T : Int → Tr} (h : Tb l T) : ∀ (f : Nat) (o : List Int) (k : Int), OrdOk l o → InR l k → l.length < f + o.length → (visitL l f o k).map T = visitT (o.map T) (T k) ∧ OrdOk l (visitL l f o k) ∧ o.length ≤ (visitL l f o k).length := by
  intro f
  induction f with
  | zero => intro o k ho _ hf; have := ho.len; omega
  | succ f ih =>
    intro o k ho hk hf
    rw [visitT_eq, visitL]
    by_cases hm : k ∈ o
    · rw [if_pos hm, if_pos ((mem_map_inj h ho hk).2 hm)]
      exact ⟨rfl, ho, Nat.le_refl _⟩
    · rw [if_neg hm, if_neg (fun e => hm ((mem_map_inj h ho hk).1 e)), h.kids hk]
      have hfold : ∀ (ks : List Int) (o2 : List Int), OrdOk l o2 → (∀ c ∈ ks, InR l c) → l.length < f + o2.length → (ks.foldl (visitL l f) o2).map T = visitTs (o2.map T) (ks.map T) ∧ OrdOk l (ks.foldl (visitL l f) o2) ∧ o2.length ≤ (ks.foldl (visitL l f) o2).length := by
        intro ks
        induction ks with
        | nil => intro o2 h2 _ _; exact ⟨by simp [visitTs], h2, Nat.le_refl _⟩
        | cons c ks ihk =>
          intro o2 h2 hr hl
          obtain ⟨e1, e2, e3⟩ := ih o2 c h2 (hr c (by simp)) hl
          obtain ⟨e4, e5, e6⟩ := ihk (visitL l f o2 c) e2 (fun c hc => hr c (by simp [hc])) (by omega)
          refine ⟨?_, e5, by simp only [List.foldl_cons]; omega⟩
          simp only [List.foldl_cons, List.map_cons]
          rw [e4, e1]
          conv => rhs; rw [visitTs]
      obtain ⟨e1, e2, e3⟩ := hfold (ndAt l k).kids (o ++ [k]) (ho.snoc hk hm) (h.rng k hk) (by simp; omega)
      refine ⟨by rw [e1]; simp, e2, by simp at e3; omega⟩
theorem visit_ok {l : List Nd} {T : Int → Tr} (h : Tb l T) {r : Int} (hr : InR l r) : (visitL l (l.length + 1) [] r).map T = visitT [] (T r) ∧ OrdOk l (visitL l (l.length + 1) [] r) := by
  obtain ⟨h1, h2, _⟩ := visit_sim h (l.length + 1) [] r (OrdOk.nil l) hr (by simp)
  exact ⟨h1, h2⟩
theorem pos_sim {l : List Nd} {T : Int → Tr} (h : Tb l T) {o : List Int} (ho : OrdOk l o) {k : Int} (hk : InR l k) : posT (o.map T) (T k) = posI o k := by
  unfold posT posI
  congr 1
  rw [List.findIdx_map, List.idxOf]
  have : ∀ (xs : List Int), (∀ x ∈ xs, InR l x) → xs.findIdx ((fun s => decide (s = T k)) ∘ T) = xs.findIdx (fun x => x == k) := by
    intro xs
    induction xs with
    | nil => intro _; rfl
    | cons x xs ih =>
      intro hx
      rw [List.findIdx_cons, List.findIdx_cons, ih (fun y hy => hx y (by simp [hy]))]
      have : ((fun s => decide (s = T k)) ∘ T) x = (x == k) := by
        simp only [Function.comp]
        by_cases e : x = k
        · subst e; simp
        · have : T x ≠ T k := fun e2 => e (h.inj x k (hx x (by simp)) hk e2)
          simp [e, this]
      rw [this]
  exact this o ho.rng
theorem ser_sim {l : List Nd} {T : Int → Tr} (h : Tb l T) {o : List Int} (ho : OrdOk l o) : serL l o = serT (o.map T) := by
  unfold serL serT
  rw [List.map_map]
  refine List.map_congr_left (fun k hk => ?_)
  have hr := ho.rng k hk
  simp only [Function.comp]
  rw [h.un k hr]
  by_cases h0 : (ndAt l k).kids = []
  · rw [unN_nil T h0]
    obtain ⟨h1, h2⟩ := h.bare k hr h0
    simp only [ndT, h0, h1, h2, List.map_nil]
  · rw [unN_cons T h0]
    have h1 := h.full k hr h0
    simp only [ndT, h1, List.map_map]
    congr 1
    refine List.map_congr_left (fun c hc => ?_)
    simp only [Function.comp]
    exact (pos_sim h ho (h.rng k hr c hc)).symm
/-- What 'from' makes hangs on the root's tree alone. -/
theorem from_ser {l : List Nd} {T : Int → Tr} (h : Tb l T) {r : Int} (hr : InR l r) : fromL l r = serT (visitT [] (T r)) := by
  obtain ⟨h1, h2⟩ := visit_ok h hr
  rw [← h1]
  exact ser_sim h h2

/-! ### the order of trees -/
mutual
theorem visitT_grow : ∀ (t : Tr) (o : List Tr), o ⊆ visitT o t ∧ t ∈ visitT o t ∧ (o.Nodup → (visitT o t).Nodup) ∧ (∀ s ∈ visitT o t, s ∈ o ∨ s.kids ⊆ visitT o t) ∧ (∀ s, o.head? = some s → (visitT o t).head? = some s)
  | .leaf b, o => by
    rw [visitT]
    by_cases h : Tr.leaf b ∈ o
    · rw [if_pos h]; exact ⟨fun _ h => h, h, fun h => h, fun s hs => .inl hs, fun s hs => hs⟩
    · rw [if_neg h]
      refine ⟨by simp, by simp, fun hn => ?_, fun s hs => ?_, fun s hs => by rw [List.head?_append, hs]; rfl⟩
      · rw [List.nodup_append]; exact ⟨hn, by simp, fun a ha b hb e => by simp at hb; subst hb; subst e; exact h ha⟩
      · rcases List.mem_append.1 hs with hs | hs
        · exact .inl hs
        · rw [List.mem_singleton.1 hs]; right; intro x hx; cases hx
  | .ask i cs ks, o => by
    rw [visitT]
    by_cases h : Tr.ask i cs ks ∈ o
    · rw [if_pos h]; exact ⟨fun _ h => h, h, fun h => h, fun s hs => .inl hs, fun s hs => hs⟩
    · rw [if_neg h]
      obtain ⟨h1, h2, h3, h4, h5⟩ := visitTs_grow ks (o ++ [.ask i cs ks])
      refine ⟨fun s hs => h1 (by simp [hs]), h1 (by simp), fun hn => h3 ?_, fun s hs => ?_, fun s hs => h5 s (by rw [List.head?_append, hs]; rfl)⟩
      · rw [List.nodup_append]; exact ⟨hn, by simp, fun a ha b hb e => by simp at hb; subst hb; subst e; exact h ha⟩
      · rcases h4 s hs with h4 | h4
        · rcases List.mem_append.1 h4 with h4 | h4
          · exact .inl h4
          · rw [List.mem_singleton.1 h4]; right; exact h2
        · exact .inr h4
theorem visitTs_grow : ∀ (ts : List Tr) (o : List Tr), o ⊆ visitTs o ts ∧ ts ⊆ visitTs o ts ∧ (o.Nodup → (visitTs o ts).Nodup) ∧ (∀ s ∈ visitTs o ts, s ∈ o ∨ s.kids ⊆ visitTs o ts) ∧ (∀ s, o.head? = some s → (visitTs o ts).head? = some s)
  | [], o => by rw [visitTs]; exact ⟨fun _ h => h, by simp, fun h => h, fun s hs => .inl hs, fun s hs => hs⟩
  | t :: ts, o => by
    rw [visitTs]
    obtain ⟨a1, a2, a3, a4, a5⟩ := visitT_grow t o
    obtain ⟨b1, b2, b3, b4, b5⟩ := visitTs_grow ts (visitT o t)
    refine ⟨fun s hs => b1 (a1 hs), fun s hs => ?_, fun hn => b3 (a3 hn), fun s hs => ?_, fun s hs => b5 s (a5 s hs)⟩
    · rcases List.mem_cons.1 hs with rfl | hs
      · exact b1 a2
      · exact b2 hs
    · rcases b4 s hs with h | h
      · rcases a4 s h with h | h
        · exact .inl h
        · exact .inr (fun x hx => b1 (h hx))
      · exact .inr h
end
/-- The trees of a diagram written down: each once, the whole first, with each all its kids. -/
structure Clo (o : List Tr) : Prop where
  nodup : o.Nodup
  kids : ∀ s ∈ o, ∀ k ∈ s.kids, k ∈ o
theorem visit_clo (t : Tr) : Clo (visitT [] t) ∧ (visitT [] t).head? = some t := by
  obtain ⟨_, _, h3, h4, _⟩ := visitT_grow t []
  refine ⟨⟨h3 (by simp), fun s hs k hk => ?_⟩, ?_⟩
  · rcases h4 s hs with h | h
    · cases h
    · exact h hk
  · rw [visitT_eq, if_neg (by simp)]
    exact (visitTs_grow t.kids [t]).2.2.2.2 t rfl
/-- The tree in place k. -/
noncomputable def atT (o : List Tr) (k : Int) : Tr := o.getD k.toNat default
theorem atT_pos {o : List Tr} {t : Tr} (h : t ∈ o) : atT o (posT o t) = t ∧ 0 ≤ posT o t ∧ posT o t < o.length := by
  have hlt : o.findIdx (fun s => decide (s = t)) < o.length := List.findIdx_lt_length_of_exists ⟨t, h, by simp⟩
  refine ⟨?_, by unfold posT; omega, by unfold posT; omega⟩
  unfold atT posT
  rw [Int.toNat_natCast, List.getD_eq_getElem?_getD, List.getElem?_eq_getElem hlt]
  have := List.findIdx_getElem (w := hlt)
  simpa using this
theorem serT_len (o : List Tr) : (serT o).length = o.length := by simp [serT]
theorem serT_at {o : List Tr} {k : Int} (hk : 0 ≤ k ∧ k < o.length) : ndAt (serT o) k = ndT o (atT o k) := by
  have : k.toNat < o.length := by omega
  unfold ndAt serT atT
  rw [List.getD_eq_getElem?_getD, List.getD_eq_getElem?_getD, List.getElem?_map, List.getElem?_eq_getElem this]
  rfl
/-- Trees as this program makes them: at least one kid. -/
def NoBare : Tr → Prop
  | .leaf _ => True
  | .ask _ _ ks => ks ≠ []
theorem tb_ser {o : List Tr} (h : Clo o) (hb : ∀ s ∈ o, NoBare s) : Tb (serT o) (atT o) := by
  have hm : ∀ k : Int, InR (serT o) k → atT o k ∈ o ∧ 0 ≤ k ∧ k < o.length := by
    intro k hk
    have h1 := hk.1
    have h2 := hk.2
    rw [serT_len] at h2
    refine ⟨?_, h1, h2⟩
    have : k.toNat < o.length := by omega
    unfold atT
    rw [List.getD_eq_getElem?_getD, List.getElem?_eq_getElem this]
    exact List.getElem_mem this
  have hmk : ∀ ks : List Tr, (∀ k ∈ ks, k ∈ o) → (ks.map (posT o)).map (atT o) = ks := by
    intro ks hk
    rw [List.map_map]
    conv => rhs; rw [← List.map_id ks]
    exact List.map_congr_left (fun k hk' => (atT_pos (hk k hk')).1)
  refine ⟨fun k hk => ?_, fun k hk c hc => ?_, fun k hk h0 => ?_, fun k hk h0 => ?_, fun i j hi hj e => ?_⟩
  · obtain ⟨h1, h2⟩ := hm k hk
    rw [serT_at h2]
    cases ht : atT o k with
    | leaf b => simp [ndT, unN]
    | ask i cs ks =>
      rw [ht] at h1
      have hne : ks ≠ [] := hb _ h1
      have := hmk ks (h.kids _ h1)
      rw [unN_cons _ (by simpa [ndT] using hne)]
      simp only [ndT, this]
  · obtain ⟨h1, h2⟩ := hm k hk
    rw [serT_at h2] at hc
    cases ht : atT o k with
    | leaf b => rw [ht] at hc; simp [ndT] at hc
    | ask i cs ks =>
      rw [ht] at hc h1
      simp only [ndT, List.mem_map] at hc
      obtain ⟨s, hs, rfl⟩ := hc
      have := atT_pos (h.kids _ h1 s hs)
      exact ⟨this.2.1, by rw [serT_len]; exact this.2.2⟩
  · obtain ⟨h1, h2⟩ := hm k hk
    rw [serT_at h2] at h0 ⊢
    cases ht : atT o k with
    | leaf b => simp [ndT]
    | ask i cs ks =>
      rw [ht] at h0 h1
      have hne : ks ≠ [] := hb _ h1
      simp only [ndT, List.map_eq_nil_iff] at h0
      exact absurd h0 hne
  · obtain ⟨h1, h2⟩ := hm k hk
    rw [serT_at h2] at h0 ⊢
    cases ht : atT o k with
    | leaf b => rw [ht] at h0; simp [ndT] at h0
    | ask i cs ks => simp [ndT]
  · obtain ⟨h1, h2⟩ := hm i hi
    obtain ⟨h3, h4⟩ := hm j hj
    have e1 : i.toNat < o.length := by omega
    have e2 : j.toNat < o.length := by omega
    unfold atT at e
    rw [List.getD_eq_getElem?_getD, List.getD_eq_getElem?_getD, List.getElem?_eq_getElem e1, List.getElem?_eq_getElem e2] at e
    simp only [Option.getD_some] at e
    have := nodup_inj h.nodup e1 e2 e
    omega
/-- Written down again it is the same. -/
theorem ser_again {t : Tr} (hb : ∀ s ∈ visitT [] t, NoBare s) : fromL (serT (visitT [] t)) 0 = serT (visitT [] t) := by
  obtain ⟨h1, h2⟩ := visit_clo t
  have h3 := tb_ser h1 hb
  have hl : 0 < (visitT [] t).length := by
    cases h : visitT [] t with
    | nil => rw [h] at h2; cases h2
    | cons x xs => simp
  have h0 : atT (visitT [] t) 0 = t := by
    unfold atT
    cases h : visitT [] t with
    | nil => rw [h] at h2; cases h2
    | cons x xs => rw [h] at h2; simp at h2; simp [h2]
  rw [from_ser h3 ⟨by omega, by rw [serT_len]; omega⟩, h0]
end Go.Proofs.YtfajbcjcigajfaaGreatDoor
/- Plain law, second part: what a tree answers; canonical trees that answer alike are equal. -/
namespace Go.Proofs.YtfajbcjcigajfaaGreatDoor
open Classical

/-- The place of the kid for a value. -/
def selI (cs : List Int) (v : Int) : Nat := cs.findIdx (fun c => decide (v < c))
mutual
def evT (g : Int → Int) : Tr → Bool
  | .leaf b => b
  | .ask i cs ks => evTs g ks (selI cs (g i))
def evTs (g : Int → Int) : List Tr → Nat → Bool
  | [], _ => false
  | t :: _, 0 => evT g t
  | _ :: ts, j + 1 => evTs g ts j
end
theorem evTs_at (g : Int → Int) : ∀ (ks : List Tr) (j : Nat) (k : Tr), ks[j]? = some k → evTs g ks j = evT g k
  | [], j, k, h => by simp at h
  | t :: ts, 0, k, h => by simp at h; rw [evTs, h]
  | t :: ts, j + 1, k, h => by rw [evTs]; exact evTs_at g ts j k (by simpa using h)
/-- lo < the numbers, each less than the next, none above hi. -/
def Asc (hi : Int) : Int → List Int → Prop
  | _, [] => True
  | lo, c :: cs => lo < c ∧ c ≤ hi ∧ Asc hi c cs
/-- No two neighbours are equal. -/
def Adj {α : Type} : List α → Prop
  | a :: b :: l => a ≠ b ∧ Adj (b :: l)
  | _ => True
def loF (fs : List Fc) (i : Int) : Int := (fs.map (·.lo)).getD i.toNat 0
def hiF (fs : List Fc) (i : Int) : Int := (fs.map (·.hi)).getD i.toNat 0
/-- A canonical tree that asks facts from n on. -/
inductive Can (fs : List Fc) : Int → Tr → Prop
  | leaf (n : Int) (b : Bool) : Can fs n (.leaf b)
  | ask (n i : Int) (cs : List Int) (ks : List Tr) (h1 : n ≤ i) (h2 : i < fs.length) (h3 : Asc (hiF fs i) (loF fs i) cs) (h4 : cs ≠ []) (h5 : ks.length = cs.length + 1) (h6 : Adj ks) (h7 : ∀ k ∈ ks, Can fs (i + 1) k) : Can fs n (.ask i cs ks)
theorem Can.mono {fs : List Fc} {n m : Int} {t : Tr} (h : Can fs n t) (hm : m ≤ n) : Can fs m t := by
  cases h with
  | leaf => exact .leaf _ _
  | ask _ i cs ks h1 h2 h3 h4 h5 h6 h7 => exact .ask _ _ _ _ (by omega) h2 h3 h4 h5 h6 h7
theorem Can.noBare {fs : List Fc} {n : Int} {t : Tr} (h : Can fs n t) : NoBare t := by
  cases h with
  | leaf => trivial
  | ask _ i cs ks h1 h2 h3 h4 h5 h6 h7 => intro e; rw [e] at h5; simp at h5
/-- A case that fits. -/
def Fit (fs : List Fc) (g : Int → Int) : Prop := ∀ i : Int, 0 ≤ i → i < fs.length → loF fs i ≤ g i ∧ g i ≤ hiF fs i
def LoHi (fs : List Fc) : Prop := ∀ i : Int, 0 ≤ i → i < fs.length → loF fs i ≤ hiF fs i
def upd (g : Int → Int) (i v : Int) : Int → Int := fun j => if j = i then v else g j
theorem Fit.upd {fs : List Fc} {g : Int → Int} (h : Fit fs g) {i v : Int} (h1 : loF fs i ≤ v) (h2 : v ≤ hiF fs i) : Fit fs (upd g i v) := by
  intro j h0 hj
  unfold YtfajbcjcigajfaaGreatDoor.upd
  split
  · rename_i e; subst e; exact ⟨h1, h2⟩
  · exact h j h0 hj
theorem fit_lo {fs : List Fc} (h : LoHi fs) : Fit fs (loF fs) := fun (i : Int) h0 hi => ⟨Int.le_refl _, h i h0 hi⟩
/-- What a tree answers hangs on the facts from n on alone. -/
theorem ev_congr {fs : List Fc} {n : Int} {t : Tr} (h : Can fs n t) : ∀ {g g' : Int → Int}, (∀ i, n ≤ i → g i = g' i) → evT g t = evT g' t := by
  induction h with
  | leaf => intro g g' _; rw [evT, evT]
  | ask n i cs ks h1 h2 h3 h4 h5 h6 h7 ih =>
    intro g g' hg
    rw [evT, evT, hg i h1]
    have hle : selI cs (g' i) < ks.length := by
      have := List.findIdx_le_length (p := fun c => decide (g' i < c)) (xs := cs)
      unfold selI; omega
    rw [evTs_at g ks _ _ (List.getElem?_eq_getElem hle), evTs_at g' ks _ _ (List.getElem?_eq_getElem hle)]
    exact ih _ (List.getElem_mem hle) (fun j hj => hg j (by omega))
/-- The kid for a value. -/
def kidAt (cs : List Int) (ks : List Tr) (v : Int) : Tr := ks.getD (selI cs v) default
theorem ev_ask {fs : List Fc} {n i : Int} {cs : List Int} {ks : List Tr} (h : Can fs n (.ask i cs ks)) (g : Int → Int) : evT g (.ask i cs ks) = evT g (kidAt cs ks (g i)) ∧ kidAt cs ks (g i) ∈ ks := by
  cases h with
  | ask _ _ _ _ h1 h2 h3 h4 h5 h6 h7 =>
    have hle : selI cs (g i) < ks.length := by
      have := List.findIdx_le_length (p := fun c => decide (g i < c)) (xs := cs)
      unfold selI; omega
    unfold kidAt
    rw [List.getD_eq_getElem?_getD, List.getElem?_eq_getElem hle]
    exact ⟨by rw [evT, evTs_at g ks _ _ (List.getElem?_eq_getElem hle)]; rfl, List.getElem_mem hle⟩
theorem sel_lt {cs : List Int} {v c : Int} (h : v < c) : selI (c :: cs) v = 0 := by simp [selI, List.findIdx_cons, h]
theorem sel_ge {cs : List Int} {v c : Int} (h : c ≤ v) : selI (c :: cs) v = selI cs v + 1 := by
  have : ¬ v < c := by omega
  simp [selI, List.findIdx_cons, this]
theorem kid_lt {cs : List Int} {k : Tr} {ks : List Tr} {v c : Int} (h : v < c) : kidAt (c :: cs) (k :: ks) v = k := by unfold kidAt; rw [sel_lt h]; rfl
theorem kid_ge {cs : List Int} {k : Tr} {ks : List Tr} {v c : Int} (h : c ≤ v) : kidAt (c :: cs) (k :: ks) v = kidAt cs ks v := by unfold kidAt; rw [sel_ge h]; rfl
theorem kid_nil {k : Tr} {ks : List Tr} {v : Int} : kidAt [] (k :: ks) v = k := rfl
/-- Two step functions that agree have the same steps. -/
theorem steps_uniq (hi : Int) : ∀ (cs : List Int) (ks : List Tr) (cs' : List Int) (ks' : List Tr) (lo : Int), lo ≤ hi → Asc hi lo cs → Asc hi lo cs' → Adj ks → Adj ks' → ks.length = cs.length + 1 → ks'.length = cs'.length + 1 →
    (∀ v, lo ≤ v → v ≤ hi → kidAt cs ks v = kidAt cs' ks' v) → cs = cs' ∧ ks = ks' := by
  intro cs
  induction cs with
  | nil =>
    intro ks cs' ks' lo hlo _ ha' hj hj' hl hl' hv
    obtain ⟨k, rfl⟩ := List.length_eq_one_iff.1 (by simpa using hl)
    cases cs' with
    | nil =>
      obtain ⟨k', rfl⟩ := List.length_eq_one_iff.1 (by simpa using hl')
      have := hv lo (by omega) hlo
      rw [kid_nil, kid_nil] at this
      rw [this]; exact ⟨rfl, rfl⟩
    | cons c cs' =>
      obtain ⟨h1, h2, h3'⟩ := ha'
      match ks', hl', hj' with
      | k0 :: k1 :: ks', _, hj' =>
        exfalso
        have e1 := hv lo (by omega) hlo
        have e2 := hv c (by omega) h2
        rw [kid_nil, kid_lt h1] at e1
        rw [kid_nil, kid_ge (Int.le_refl _)] at e2
        have e3 : kidAt cs' (k1 :: ks') c = k1 := by
          cases cs' with
          | nil => rfl
          | cons c2 cs2 => exact kid_lt h3'.1
        exact hj'.1 (by rw [← e1, e2, e3])
      | [k0], h, _ => simp at h
      | [], h, _ => simp at h
  | cons c cs ih =>
    intro ks cs' ks' lo hlo ha ha' hj hj' hl hl' hv
    obtain ⟨a1, a2, a3⟩ := ha
    match ks, hl, hj with
    | k0 :: k1 :: ks, hl, hj =>
      have f3 : kidAt cs (k1 :: ks) c = k1 := by
        cases cs with
        | nil => rfl
        | cons c2 cs2 => exact kid_lt a3.1
      cases cs' with
      | nil =>
        exfalso
        obtain ⟨k', rfl⟩ := List.length_eq_one_iff.1 (by simpa using hl')
        have e1 := hv lo (by omega) hlo
        have e2 := hv c (by omega) a2
        rw [kid_nil, kid_lt a1] at e1
        rw [kid_nil, kid_ge (Int.le_refl _), f3] at e2
        exact hj.1 (by rw [e1, e2])
      | cons c' cs' =>
        obtain ⟨b1, b2, b3⟩ := ha'
        match ks', hl', hj' with
        | k0' :: k1' :: ks', hl', hj' =>
          have f3' : kidAt cs' (k1' :: ks') c' = k1' := by
            cases cs' with
            | nil => rfl
            | cons c2 cs2 => exact kid_lt b3.1
          have e0 := hv lo (by omega) hlo
          rw [kid_lt a1, kid_lt b1] at e0
          have hcc : c = c' := by
            rcases Int.lt_trichotomy c c' with h | h | h
            · exfalso
              have e2 := hv c (by omega) a2
              rw [kid_ge (Int.le_refl _), f3, kid_lt h] at e2
              exact hj.1 (by rw [e0, e2])
            · exact h
            · exfalso
              have e2 := hv c' (by omega) b2
              rw [kid_ge (Int.le_refl _), f3', kid_lt h] at e2
              exact hj'.1 (by rw [← e0, e2])
          subst hcc
          obtain ⟨g1, g2⟩ := ih (k1 :: ks) cs' (k1' :: ks') c a2 a3 b3 hj.2 hj'.2 (by simpa using hl) (by simpa using hl') (fun v h1 h2 => by
            have := hv v (by omega) h2
            rwa [kid_ge h1, kid_ge h1] at this)
          exact ⟨by rw [g1], by rw [e0, g2]⟩
        | [k0'], h, _ => simp at h
        | [], h, _ => simp at h
    | [k0], h, _ => simp at h
    | [], h, _ => simp at h
theorem asc_le {hi : Int} : ∀ {cs : List Int} {lo : Int}, lo ≤ hi → Asc hi lo cs → ∀ (j : Nat) (h : j < cs.length), lo < cs[j] ∧ cs[j] ≤ hi
  | c :: cs, lo, hl, ⟨h1, h2, h3⟩, 0, h => ⟨h1, h2⟩
  | c :: cs, lo, hl, ⟨h1, h2, h3⟩, j + 1, h => by
    have := asc_le h2 h3 j (by simpa using h)
    simp only [List.getElem_cons_succ]
    exact ⟨by omega, this.2⟩
/-- A tree that truly asks i does not answer as one that does not. -/
theorem ask_sep {fs : List Fc} (hlh : LoHi fs) (d : Nat)
    (ih : ∀ (n : Int) (s t : Tr), 0 ≤ n → (fs.length : Int) ≤ n + d → Can fs n s → Can fs n t → (∀ g, Fit fs g → evT g s = evT g t) → s = t)
    {n i : Int} {cs : List Int} {ks : List Tr} {t : Tr} (hn : 0 ≤ n) (hd : (fs.length : Int) ≤ n + d + 1) (hs : Can fs n (.ask i cs ks)) (ht : Can fs (i + 1) t) (he : ∀ g, Fit fs g → evT g (.ask i cs ks) = evT g t) : False := by
  have hs0 := hs
  cases hs with
  | ask _ _ _ _ h1 h2 h3 h4 h5 h6 h7 =>
    have hlo := hlh i (by omega) h2
    match cs, h3, h4, ks, h5, h6, h7 with
    | c :: cs, h3, _, k0 :: k1 :: ks, h5, h6, h7 =>
      have f3 : kidAt cs (k1 :: ks) c = k1 := by
        cases cs with
        | nil => rfl
        | cons c2 cs2 => exact kid_lt h3.2.2.1
      refine h6.1 (ih (i + 1) k0 k1 (by omega) (by omega) (h7 _ (by simp)) (h7 _ (by simp)) (fun g hg => ?_))
      have e0 := he (upd g i (loF fs i)) (hg.upd (Int.le_refl _) hlo)
      have e1 := he (upd g i c) (hg.upd (by have := h3.1; omega) h3.2.1)
      rw [(ev_ask hs0 _).1] at e0 e1
      have u0 : upd g i (loF fs i) i = loF fs i := by simp [upd]
      have u1 : upd g i c i = c := by simp [upd]
      rw [u0, kid_lt h3.1] at e0
      rw [u1, kid_ge (Int.le_refl _), f3] at e1
      have hu : ∀ v j, i + 1 ≤ j → upd g i v j = g j := fun v j hj => by unfold upd; rw [if_neg (by omega)]
      rw [ev_congr (h7 k0 (by simp)) (hu _), ev_congr ht (hu _)] at e0
      rw [ev_congr (h7 k1 (by simp)) (hu _), ev_congr ht (hu _)] at e1
      rw [e0, e1]
    | [], _, h4, _, _, _, _ => exact h4 rfl
    | c :: cs, _, _, [k0], h5, _, _ => simp at h5
    | c :: cs, _, _, [], h5, _, _ => simp at h5
theorem can_uniq' {fs : List Fc} (hlh : LoHi fs) : ∀ (d : Nat) (n : Int) (s t : Tr), 0 ≤ n → (fs.length : Int) ≤ n + d → Can fs n s → Can fs n t → (∀ g, Fit fs g → evT g s = evT g t) → s = t := by
  intro d
  induction d with
  | zero =>
    intro n s t hn hd hs ht he
    cases hs with
    | leaf _ b =>
      cases ht with
      | leaf _ b' => have := he _ (fit_lo hlh); rw [evT, evT] at this; rw [this]
      | ask _ i _ _ h1 h2 => omega
    | ask _ i _ _ h1 h2 => omega
  | succ d ih =>
    intro n s t hn hd hs ht he
    have hd' : (fs.length : Int) ≤ n + d + 1 := by omega
    have hs0 := hs
    have ht0 := ht
    cases hs with
    | leaf _ b =>
      cases ht with
      | leaf _ b' => have := he _ (fit_lo hlh); rw [evT, evT] at this; rw [this]
      | ask _ i cs ks h1 h2 => exact (ask_sep hlh d ih hn hd' ht0 (.leaf _ _) (fun g hg => (he g hg).symm)).elim
    | ask _ i cs ks h1 h2 h3 h4 h5 h6 h7 =>
      cases ht with
      | leaf _ b' => exact (ask_sep hlh d ih hn hd' hs0 (.leaf _ _) he).elim
      | ask _ j cs' ks' g1 g2 g3 g4 g5 g6 g7 =>
        rcases Int.lt_trichotomy i j with h | h | h
        · exact (ask_sep hlh d ih hn hd' hs0 (.ask _ _ _ _ (by omega) g2 g3 g4 g5 g6 g7) he).elim
        · subst h
          obtain ⟨e1, e2⟩ := steps_uniq (hiF fs i) cs ks cs' ks' (loF fs i) (hlh i (by omega) h2) h3 g3 h6 g6 h5 g5 (fun v hv1 hv2 => by
            have m1 := (ev_ask hs0 (upd (loF fs) i v)).2
            have m2 := (ev_ask ht0 (upd (loF fs) i v)).2
            have u0 : ∀ g : Int → Int, upd g i v i = v := fun g => by simp [upd]
            rw [u0] at m1 m2
            refine ih (i + 1) _ _ (by omega) (by omega) (h7 _ m1) (g7 _ m2) (fun g hg => ?_)
            have e := he (upd g i v) (hg.upd hv1 hv2)
            rw [(ev_ask hs0 _).1, (ev_ask ht0 _).1, u0] at e
            have hu : ∀ j, i + 1 ≤ j → upd g i v j = g j := fun j hj => by unfold upd; rw [if_neg (by omega)]
            rwa [ev_congr (h7 _ m1) hu, ev_congr (g7 _ m2) hu] at e)
          rw [e1, e2]
        · exact (ask_sep hlh d ih hn hd' ht0 (.ask _ _ _ _ (by omega) h2 h3 h4 h5 h6 h7) (fun g hg => (he g hg).symm)).elim
/-- Canonical trees that answer alike are equal. -/
theorem can_uniq {fs : List Fc} (hlh : LoHi fs) {s t : Tr} (hs : Can fs 0 s) (ht : Can fs 0 t) (he : ∀ g, Fit fs g → evT g s = evT g t) : s = t :=
  can_uniq' hlh fs.length 0 s t (Int.le_refl _) (by omega) hs ht he
end Go.Proofs.YtfajbcjcigajfaaGreatDoor
/- Plain law, third part: joining equal neighbours; a table with one more node. -/
namespace Go.Proofs.YtfajbcjcigajfaaGreatDoor

/-- Equal neighbours are joined: the cuts and the kids behind the first one. -/
def innerR {α : Type} [DecidableEq α] : α → List Int → List α → List Int × List α
  | last, s :: ss, k :: ks => if last = k then innerR last ss ks else (s :: (innerR k ss ks).1, k :: (innerR k ss ks).2)
  | _, _, _ => ([], [])
theorem innerR_map {α β : Type} [DecidableEq α] [DecidableEq β] (f : α → β) : ∀ (ss : List Int) (ks : List α) (k0 : α), (∀ x ∈ k0 :: ks, ∀ y ∈ k0 :: ks, f x = f y → x = y) → innerR (f k0) ss (ks.map f) = ((innerR k0 ss ks).1, (innerR k0 ss ks).2.map f)
  | [], ks, k0, h => by simp [innerR]
  | s :: ss, [], k0, h => by simp [innerR]
  | s :: ss, k :: ks, k0, h => by
    simp only [List.map_cons, innerR]
    by_cases e : k0 = k
    · subst e
      simp only [if_true]
      exact innerR_map f ss ks k0 (fun x hx y hy => h x (List.mem_cons_of_mem _ hx) y (List.mem_cons_of_mem _ hy))
    · have : f k0 ≠ f k := fun e2 => e (h k0 (by simp) k (by simp) e2)
      rw [if_neg this, if_neg e, innerR_map f ss ks k (fun x hx y hy => h x (List.mem_cons_of_mem _ hx) y (List.mem_cons_of_mem _ hy))]
      simp
theorem innerR_len {α : Type} [DecidableEq α] : ∀ (ss : List Int) (ks : List α) (k0 : α), (innerR k0 ss ks).1.length = (innerR k0 ss ks).2.length
  | [], ks, k0 => by simp [innerR]
  | s :: ss, [], k0 => by simp [innerR]
  | s :: ss, k :: ks, k0 => by
    simp only [innerR]
    split
    · exact innerR_len ss ks k0
    · simp [innerR_len ss ks k]
theorem innerR_sub {α : Type} [DecidableEq α] : ∀ (ss : List Int) (ks : List α) (k0 : α), (innerR k0 ss ks).1 ⊆ ss ∧ (innerR k0 ss ks).2 ⊆ ks
  | [], ks, k0 => by simp [innerR]
  | s :: ss, [], k0 => by simp [innerR]
  | s :: ss, k :: ks, k0 => by
    simp only [innerR]
    split
    · obtain ⟨h1, h2⟩ := innerR_sub ss ks k0
      exact ⟨fun x hx => by simp [h1 hx], fun x hx => by simp [h2 hx]⟩
    · obtain ⟨h1, h2⟩ := innerR_sub ss ks k
      exact ⟨fun x hx => by rcases List.mem_cons.1 hx with rfl | hx <;> simp_all [h1 _], fun x hx => by rcases List.mem_cons.1 hx with rfl | hx <;> simp_all [h2 _]⟩
theorem innerR_adj {α : Type} [DecidableEq α] : ∀ (ss : List Int) (ks : List α) (k0 : α), Adj (k0 :: (innerR k0 ss ks).2)
  | [], ks, k0 => by simp [innerR, Adj]
  | s :: ss, [], k0 => by simp [innerR, Adj]
  | s :: ss, k :: ks, k0 => by
    simp only [innerR]
    split
    · exact innerR_adj ss ks k0
    · rename_i h
      exact ⟨h, innerR_adj ss ks k⟩
theorem asc_mono {hi : Int} : ∀ {cs : List Int} {lo lo' : Int}, lo' ≤ lo → Asc hi lo cs → Asc hi lo' cs
  | [], _, _, _, _ => trivial
  | _ :: _, _, _, h, ⟨h1, h2⟩ => ⟨by omega, h2⟩
theorem innerR_asc {α : Type} [DecidableEq α] {hi : Int} : ∀ (ss : List Int) (ks : List α) (k0 : α) (lo : Int), Asc hi lo ss → Asc hi lo (innerR k0 ss ks).1
  | [], ks, k0, lo, h => by simp [innerR, Asc]
  | s :: ss, [], k0, lo, h => by simp [innerR, Asc]
  | s :: ss, k :: ks, k0, lo, h => by
    simp only [innerR]
    split
    · exact innerR_asc ss ks k0 lo (asc_mono (by have := h.1; omega) h.2.2)
    · exact ⟨h.1, h.2.1, innerR_asc ss ks k s h.2.2⟩
open Classical in
theorem innerR_kid {hi : Int} : ∀ (ss : List Int) (ks : List Tr) (k0 : Tr) (lo v : Int), Asc hi lo ss → ks.length = ss.length → kidAt (innerR k0 ss ks).1 (k0 :: (innerR k0 ss ks).2) v = kidAt ss (k0 :: ks) v
  | [], ks, k0, lo, v, h, hl => by simp [innerR, kid_nil]
  | s :: ss, [], k0, lo, v, h, hl => by simp at hl
  | s :: ss, k :: ks, k0, lo, v, h, hl => by
    simp only [innerR]
    by_cases e : k0 = k
    · subst e
      rw [if_pos rfl, innerR_kid ss ks k0 s v h.2.2 (by simpa using hl)]
      by_cases hv : v < s
      · rw [kid_lt hv]
        cases ss with
        | nil => exact kid_nil
        | cons s2 ss2 => exact kid_lt (by have := h.2.2.1; omega)
      · rw [kid_ge (by omega)]
    · rw [if_neg e]
      by_cases hv : v < s
      · rw [kid_lt hv, kid_lt hv]
      · rw [kid_ge (by omega), kid_ge (by omega)]
        exact innerR_kid ss ks k s v h.2.2 (by simpa using hl)
/-- The last start at or below v. -/
theorem kid_start {hi : Int} (F : Int → Tr) : ∀ (ss : List Int) (s0 v : Int), Asc hi s0 ss → s0 ≤ v → ∃ s ∈ s0 :: ss, kidAt ss ((s0 :: ss).map F) v = F s ∧ s ≤ v ∧ ∀ s' ∈ s0 :: ss, s' ≤ v → s' ≤ s
  | [], s0, v, _, h => ⟨s0, by simp, by simp [kid_nil], h, by simp⟩
  | s :: ss, s0, v, h, hv => by
    by_cases hs : v < s
    · refine ⟨s0, by simp, by simp only [List.map_cons]; exact kid_lt hs, hv, fun s' hs' hle => ?_⟩
      rcases List.mem_cons.1 hs' with rfl | hs'
      · omega
      · exfalso
        rcases List.mem_cons.1 hs' with rfl | hs'
        · omega
        · obtain ⟨j, hj, rfl⟩ := List.mem_iff_getElem.1 hs'
          have := (asc_le h.2.1 h.2.2 j hj).1
          omega
    · obtain ⟨x, hx, e1, e2, e3⟩ := kid_start F ss s v h.2.2 (by omega)
      refine ⟨x, List.mem_cons_of_mem _ hx, by rw [List.map_cons, kid_ge (by omega)]; exact e1, e2, fun s' hs' hle => ?_⟩
      rcases List.mem_cons.1 hs' with rfl | hs'
      · have := e3 s (by simp) (by omega); have := h.1; omega
      · exact e3 s' hs' hle
/-- The tree that inner makes: canonical, and it answers as the kid for the value. -/
theorem mk_can {fs : List Fc} {i : Int} {ss : List Int} {k0 : Tr} {ks : List Tr} (hi : i < fs.length) (hA : Asc (hiF fs i) (loF fs i) ss) (_hl : ks.length = ss.length) (hk : ∀ k ∈ k0 :: ks, Can fs (i + 1) k) [DecidableEq Tr] (hne : (innerR k0 ss ks).2 ≠ []) :
    Can fs i (.ask i (innerR k0 ss ks).1 (k0 :: (innerR k0 ss ks).2)) :=
  .ask i i _ _ (Int.le_refl _) hi (innerR_asc ss ks k0 _ hA) (fun e => hne (by have := innerR_len ss ks k0; rw [e] at this; exact List.eq_nil_of_length_eq_zero this.symm)) (by rw [List.length_cons, innerR_len]) (innerR_adj ss ks k0) (fun k h => by
    rcases List.mem_cons.1 h with rfl | h
    · exact hk _ (by simp)
    · exact hk _ (by simp [(innerR_sub ss ks k0).2 h]))
end Go.Proofs.YtfajbcjcigajfaaGreatDoor
