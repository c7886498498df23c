/- Part of the proof of a law of customhouselaw26: the texts R0. -/
import Derived.Test.YtfajbcjcigajfaaGreatDoorMP4
import Derived.Test.YtfajbcjcigajfaaGreatDoorMJ1J2
import Derived.Test.YtfajbcjcigajfaaGreatDoorMK8
import Derived.Test.YtfajbcjcigajfaaGreatDoorMP5
/- What grow makes, and how large it may become. -/
namespace Go.Proofs.YtfajbcjcigajfaaGreatDoor

/-- The maker's table, what is done, and whether there are too many nodes. -/
structure St where
  l : List Nd
  done : List (ByteArray × Int)
  full : Bool
def leafN (b : Bool) : Nd := ⟨b, 0, [], []⟩
def keyS (i : Int) (f : Fm) : ByteArray := bytesOf (Lib.itoa i ++ spellS f)
def mput (m : List (ByteArray × Int)) (a : ByteArray) (v : Int) : List (ByteArray × Int) := if (Go.Proofs.YtfajbcjcigajfaaGreatDoor.mget m a).isSome then m.map (fun p => if p.1 = a then (a, v) else p) else m ++ [(a, v)]
def St.leaf (s : St) (b : Bool) : Int × St := ((posN s.l (leafN b) : Nat), { s with l := addN s.l (leafN b) })
def St.inner (s : St) (key : ByteArray) (i : Int) (st kids : List Int) : Int × St :=
  ((innerK s.l i st kids).1, { l := (innerK s.l i st kids).2, done := mput s.done key (innerK s.l i st kids).1, full := s.full })
/-- What grow makes of a formula, from the fact i on. -/
def growP : List Fc → Int → Fm → St → Int × St
  | [], _, f, s =>
    if f.op = 1 ∨ f.op = 2 then s.leaf (f.op == 1)
    else ({ s with full := s.full || decide (4000 < s.l.length) } : St).leaf false
  | x :: rest, i, f, s =>
    if f.op = 1 ∨ f.op = 2 then s.leaf (f.op == 1)
    else if (s.full || decide (4000 < s.l.length)) = true then ({ s with full := true } : St).leaf false
    else match mget s.done (keyS i f) with
      | some k => (k, { s with full := false })
      | none =>
        let p := (startsL x f).foldl (fun (a : List Int × St) v => ((a.1 ++ [(growP rest (i + 1) (given x.name v f) a.2).1]), (growP rest (i + 1) (given x.name v f) a.2).2)) ([], { s with full := false })
        p.2.inner (keyS i f) i (startsL x f) p.1
/-- The kids of a node, made one after the other. -/
def growKids (rest : List Fc) (i : Int) (x : Fc) (f : Fm) (vs : List Int) (s : St) : List Int × St :=
  vs.foldl (fun (a : List Int × St) v => ((a.1 ++ [(growP rest (i + 1) (given x.name v f) a.2).1]), (growP rest (i + 1) (given x.name v f) a.2).2)) ([], s)
/-- How large the table is, the two leaves counted in any case. -/
def sizeT (l : List Nd) : Nat := l.length + (if (findN l (leafN true)).isSome then 0 else 1) + (if (findN l (leafN false)).isSome then 0 else 1)
theorem findN_mono {l : List Nd} {x y : Nd} (h : (findN l y).isSome = true) : (findN (l ++ [x]) y).isSome = true := by
  unfold findN at *
  rw [List.findIdx?_append]
  cases h2 : l.findIdx? (sameN y) with
  | none => rw [h2] at h; cases h
  | some i => rfl
theorem findN_new (l : List Nd) (x : Nd) : (findN (l ++ [x]) x).isSome = true := by
  unfold findN
  rw [List.findIdx?_append]
  cases h2 : l.findIdx? (sameN x) with
  | none => simp [List.findIdx?_cons, (sameN_iff x x).2 rfl]
  | some i => rfl
theorem size_add (l : List Nd) (x : Nd) : sizeT (addN l x) ≤ sizeT l + 1 := by
  unfold addN
  split
  · omega
  · unfold sizeT
    have a := @findN_mono l x (leafN true)
    have b := @findN_mono l x (leafN false)
    rw [List.length_append]
    simp only [List.length_cons, List.length_nil]
    cases h1 : (findN l (leafN true)).isSome <;> cases h2 : (findN l (leafN false)).isSome <;> simp_all <;> (repeat' split) <;> omega
theorem size_leaf (l : List Nd) (b : Bool) : sizeT (addN l (leafN b)) ≤ sizeT l := by
  unfold addN
  split
  · omega
  · rename_i h
    have hn := findN_new l (leafN b)
    unfold sizeT
    have a1 := @findN_mono l (leafN b) (leafN true)
    have a2 := @findN_mono l (leafN b) (leafN false)
    rw [List.length_append]
    simp only [List.length_cons, List.length_nil]
    cases b
    · cases h1 : (findN l (leafN true)).isSome <;> simp_all <;> (repeat' split) <;> omega
    · cases h1 : (findN l (leafN false)).isSome <;> simp_all <;> (repeat' split) <;> omega
theorem size_inner (l : List Nd) (i : Int) (st kids : List Int) : sizeT (innerK l i st kids).2 ≤ sizeT l + 1 := by
  unfold innerK
  split
  · simp
  · exact size_add _ _
theorem grow_size : ∀ (rest : List Fc) (i : Int) (f : Fm) (s : St), sizeT (growP rest i f s).2.l ≤ max (sizeT s.l) (4003 + rest.length)
  | [], i, f, s => by
    unfold growP
    split
    · have := size_leaf s.l (f.op == 1); simp only [St.leaf]; omega
    · have := size_leaf s.l false; simp only [St.leaf]; omega
  | x :: rest, i, f, s => by
    unfold growP
    split
    · have := size_leaf s.l (f.op == 1); simp only [St.leaf]; omega
    · split
      · have := size_leaf s.l false; simp only [St.leaf]; omega
      · rename_i hf
        split
        · simp only; omega
        · have hl : s.l.length ≤ 4000 := by
            simp only [Bool.or_eq_true, decide_eq_true_eq, not_or] at hf; omega
          have hs0 : sizeT s.l ≤ 4002 := by unfold sizeT; split <;> split <;> omega
          have key : ∀ (vs : List Int) (a : List Int × St), sizeT a.2.l ≤ 4003 + rest.length → sizeT (vs.foldl (fun (a : List Int × St) v => ((a.1 ++ [(growP rest (i + 1) (given x.name v f) a.2).1]), (growP rest (i + 1) (given x.name v f) a.2).2)) a).2.l ≤ 4003 + rest.length := by
            intro vs
            induction vs with
            | nil => intro a h; exact h
            | cons v vs ih =>
              intro a h
              rw [List.foldl_cons]
              refine ih _ ?_
              have := grow_size rest (i + 1) (given x.name v f) a.2
              simp only; omega
          have h1 := key (startsL x f) ([], { s with full := false }) (by simp only; omega)
          simp only [St.inner]
          have h2 := size_inner ((startsL x f).foldl (fun (a : List Int × St) v => ((a.1 ++ [(growP rest (i + 1) (given x.name v f) a.2).1]), (growP rest (i + 1) (given x.name v f) a.2).2)) ([], { s with full := false })).2.l i (startsL x f) ((startsL x f).foldl (fun (a : List Int × St) v => ((a.1 ++ [(growP rest (i + 1) (given x.name v f) a.2).1]), (growP rest (i + 1) (given x.name v f) a.2).2)) ([], { s with full := false })).1
          simp only [List.length_cons]
          omega
theorem growKids_snoc (rest : List Fc) (i : Int) (x : Fc) (f : Fm) (vs : List Int) (v : Int) (s : St) :
    growKids rest i x f (vs ++ [v]) s = ((growKids rest i x f vs s).1 ++ [(growP rest (i + 1) (given x.name v f) (growKids rest i x f vs s).2).1], (growP rest (i + 1) (given x.name v f) (growKids rest i x f vs s).2).2) := by
  unfold growKids; rw [List.foldl_append]; rfl
theorem growKids_size (rest : List Fc) (i : Int) (x : Fc) (f : Fm) (vs : List Int) (s : St) : sizeT (growKids rest i x f vs s).2.l ≤ max (sizeT s.l) (4003 + rest.length) := by
  have key : ∀ (vs : List Int) (a : List Int × St), sizeT (vs.foldl (fun (a : List Int × St) v => ((a.1 ++ [(growP rest (i + 1) (given x.name v f) a.2).1]), (growP rest (i + 1) (given x.name v f) a.2).2)) a).2.l ≤ max (sizeT a.2.l) (4003 + rest.length) := by
    intro vs
    induction vs with
    | nil => intro a; simp only [List.foldl_nil]; omega
    | cons v vs ih =>
      intro a
      rw [List.foldl_cons]
      have h1 := ih ((a.1 ++ [(growP rest (i + 1) (given x.name v f) a.2).1]), (growP rest (i + 1) (given x.name v f) a.2).2)
      have h2 := grow_size rest (i + 1) (given x.name v f) a.2
      simp only at h1
      omega
  exact key vs ([], s)
theorem growKids_len (rest : List Fc) (i : Int) (x : Fc) (f : Fm) (vs : List Int) (s : St) : (growKids rest i x f vs s).1.length = vs.length := by
  have key : ∀ (vs : List Int) (a : List Int × St), (vs.foldl (fun (a : List Int × St) v => ((a.1 ++ [(growP rest (i + 1) (given x.name v f) a.2).1]), (growP rest (i + 1) (given x.name v f) a.2).2)) a).1.length = a.1.length + vs.length := by
    intro vs
    induction vs with
    | nil => intro a; rfl
    | cons v vs ih => intro a; rw [List.foldl_cons, ih]; simp; omega
  have := key vs ([], s)
  simpa [growKids] using this
theorem size_len (l : List Nd) : l.length ≤ sizeT l := by unfold sizeT; omega

/-! ### formulas stay small -/
theorem nodes_pos (f : Fm) : 1 ≤ nodesF f := by rw [nodesF_eq]; omega
theorem sum_map_le {α : Type} (p q : α → Nat) : ∀ (l : List α), (∀ x ∈ l, p x ≤ q x) → (l.map p).sum ≤ (l.map q).sum
  | [], _ => by simp
  | x :: l, h => by
    simp only [List.map_cons, List.sum_cons]
    have h1 := h x (by simp)
    have h2 := sum_map_le p q l (fun y hy => h y (by simp [hy]))
    omega
theorem mem_sum {α : Type} (p : α → Nat) : ∀ (l : List α) (x : α), x ∈ l → p x ≤ (l.map p).sum
  | y :: l, x, h => by
    simp only [List.map_cons, List.sum_cons]
    rcases List.mem_cons.1 h with rfl | h
    · omega
    · have := mem_sum p l x h; omega
theorem sub_sum {α : Type} (p : α → Nat) {a b : List α} (h : a.Sublist b) : (a.map p).sum ≤ (b.map p).sum := by
  induction h with
  | slnil => simp
  | cons x _ ih => simp only [List.map_cons, List.sum_cons]; omega
  | cons_cons x _ ih => simp only [List.map_cons, List.sum_cons]; omega
theorem nodes_known (b : Bool) : nodesF (knownF b) = 1 := by rw [nodesF_eq]; cases b <;> rfl
theorem given_nodes (nm : ByteArray) (v : Int) (f : Fm) : FormF f → nodesF (given nm v f) ≤ nodesF f := by
  induction f using Fm.ind with
  | h f ih =>
    intro hf
    rw [given_eq]
    have hp := nodes_pos f
    rcases formed_cases hf.head with ⟨h3, h0, _⟩ | ⟨h3, _, _, _, h⟩
    · rw [if_pos h3]
      split
      · rw [nodes_known]; exact hp
      · exact Nat.le_refl _
    · rw [if_neg h3]
      rcases h with ⟨h1, h0⟩ | ⟨h4, h0⟩ | ⟨h5, h0⟩
      · rw [if_neg (by omega), if_neg (by omega)]; exact Nat.le_refl _
      · rw [if_pos h4]
        obtain ⟨k, hkk⟩ := List.length_eq_one_iff.1 h0
        have hm : k ∈ f.kids := by rw [hkk]; simp
        have h1 := ih k hm (hf.kid hm)
        have h2 : nodesF f = 1 + nodesF k := by rw [nodesF_eq, hkk]; simp
        rw [hkk]
        simp only [List.map_cons, List.map_nil, List.headD_cons]
        unfold notF
        split
        · rw [nodes_known]; omega
        · rw [nodesF_eq]; simp; omega
      · rw [if_neg (by omega), if_pos h5]
        have hs : ((f.kids.map (given nm v)).map nodesF).sum ≤ (f.kids.map nodesF).sum := by
          rw [List.map_map]
          exact sum_map_le _ _ _ (fun k hk => ih k hk (hf.kid hk))
        have h2 := nodesF_eq f
        rcases join_cases f.op h5 (f.kids.map (given nm v)) with ⟨b, h⟩ | h | ⟨l, h, h2', h3', h4⟩
        · rw [h, nodes_known]; exact hp
        · have := mem_sum nodesF _ _ h; omega
        · rw [h, nodesF_eq]
          have := sub_sum nodesF h3'
          simp only
          omega
theorem cuts_len (nm : ByteArray) (f : Fm) : (cutsF nm f).length ≤ 2 * nodesF f := by
  induction f using Fm.ind with
  | h f ih =>
    rw [cutsF_eq, nodesF_eq, List.length_append, List.length_flatten, List.map_map]
    have h1 : (f.kids.map (List.length ∘ cutsF nm)).sum ≤ (f.kids.map (fun k => 2 * nodesF k)).sum := sum_map_le _ _ _ ih
    have h2 : ∀ l : List Fm, (l.map (fun k => 2 * nodesF k)).sum = 2 * (l.map nodesF).sum := by
      intro l
      induction l with
      | nil => rfl
      | cons x l ih => simp only [List.map_cons, List.sum_cons, ih]; omega
    rw [h2] at h1
    split <;> simp <;> omega
end Go.Proofs.YtfajbcjcigajfaaGreatDoor
