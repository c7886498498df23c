/- Part of the proof of a law of customhouselaw26: the texts P6 P7. -/
import Derived.Test.YtfajbcjcigajfaaGreatDoorMR1
/- Plain law, sixth part: grow's table is closed. -/
namespace Go.Proofs.YtfajbcjcigajfaaGreatDoor

/-- Kids and what is done lie in the table. -/
structure Rg (s : St) : Prop where
  rng : ∀ k, InR s.l k → ∀ c ∈ (ndAt s.l k).kids, InR s.l c
  vals : ∀ p ∈ s.done, InR s.l p.2
theorem InR.mono {l l' : List Nd} {k : Int} (h : InR l k) (hl : l.length ≤ l'.length) : InR l' k := ⟨h.1, by have := h.2; omega⟩
theorem add_rg {l : List Nd} {x : Nd} (h : ∀ k, InR l k → ∀ c ∈ (ndAt l k).kids, InR l c) (hx : ∀ c ∈ x.kids, InR l c) :
    (∀ k, InR (addN l x) k → ∀ c ∈ (ndAt (addN l x) k).kids, InR (addN l x) c) ∧ InR (addN l x) (posN l x : Nat) ∧ l.length ≤ (addN l x).length := by
  cases hf : findN l x with
  | some i =>
    have ea : addN l x = l := by unfold addN; rw [hf]; rfl
    have ep : posN l x = i := by unfold posN; rw [hf]; rfl
    have := (findN_some hf).1
    rw [ea, ep]
    exact ⟨h, ⟨by omega, by omega⟩, Nat.le_refl _⟩
  | none =>
    have ea : addN l x = l ++ [x] := by unfold addN; rw [hf]; rfl
    have ep : posN l x = l.length := by unfold posN; rw [hf]; rfl
    have hlen : (l ++ [x]).length = l.length + 1 := by simp
    rw [ea, ep]
    refine ⟨fun k hk c hc => ?_, ⟨by omega, by rw [hlen]; omega⟩, by omega⟩
    by_cases e : k = l.length
    · subst e
      rw [ndAt_new] at hc
      exact (hx c hc).mono (by omega)
    · have hk' : InR l k := ⟨hk.1, by have := hk.2; rw [hlen] at this; omega⟩
      rw [ndAt_old hk'] at hc
      exact (h k hk' c hc).mono (by omega)
theorem inner_rg {l : List Nd} {i : Int} {st kids : List Int} (h : ∀ k, InR l k → ∀ c ∈ (ndAt l k).kids, InR l c) (hk : ∀ c ∈ kids, InR l c) (hp : 0 < kids.length) :
    (∀ k, InR (innerK l i st kids).2 k → ∀ c ∈ (ndAt (innerK l i st kids).2 k).kids, InR (innerK l i st kids).2 c) ∧ InR (innerK l i st kids).2 (innerK l i st kids).1 ∧ l.length ≤ (innerK l i st kids).2.length := by
  match kids, hp with
  | k0 :: ks, _ =>
    have hsub := (innerR_sub st.tail ks k0).2
    unfold innerK
    simp only [List.headD_cons, List.tail_cons]
    split
    · exact ⟨h, hk k0 (by simp), Nat.le_refl _⟩
    · rename_i cs k ks2 he
      rw [he] at hsub
      exact add_rg h (fun c hc => by
        rcases List.mem_cons.1 hc with rfl | hc
        · exact hk c (by simp)
        · exact hk c (by simp [hsub hc]))
theorem grow_rg : ∀ (rest : List Fc) (i : Int) (f : Fm) (s : St), (∀ x ∈ rest, x.lo ≤ x.hi) → Rg s → Rg (growP rest i f s).2 ∧ InR (growP rest i f s).2.l (growP rest i f s).1 ∧ s.l.length ≤ (growP rest i f s).2.l.length := by
  have leaf : ∀ (s : St) (b : Bool), Rg s → Rg (s.leaf b).2 ∧ InR (s.leaf b).2.l (s.leaf b).1 ∧ s.l.length ≤ (s.leaf b).2.l.length := by
    intro s b h
    obtain ⟨h1, h2, h3⟩ := add_rg (x := leafN b) h.rng (fun c hc => by cases hc)
    exact ⟨⟨h1, fun p hp => (h.vals p hp).mono h3⟩, h2, h3⟩
  intro rest
  induction rest with
  | nil =>
    intro i f s _ h
    unfold growP
    split
    · exact leaf s _ h
    · exact leaf _ _ ⟨h.rng, h.vals⟩
  | cons x rest ih =>
    intro i f s hlh h
    unfold growP
    split
    · exact leaf s _ h
    · split
      · exact leaf _ _ ⟨h.rng, h.vals⟩
      · split
        · rename_i k hk
          refine ⟨⟨h.rng, h.vals⟩, ?_, Nat.le_refl _⟩
          unfold mget at hk
          obtain ⟨p, hp, rfl⟩ := Option.map_eq_some_iff.1 hk
          exact h.vals p (List.mem_of_find?_eq_some hp)
        · have key : ∀ (vs : List Int) (a : List Int × St), Rg a.2 → (∀ c ∈ a.1, InR a.2.l c) → s.l.length ≤ a.2.l.length →
              Rg (vs.foldl (fun (a : List Int × St) v => ((a.1 ++ [(growP rest (i + 1) (given x.name v f) a.2).1]), (growP rest (i + 1) (given x.name v f) a.2).2)) a).2 ∧
              (∀ c ∈ (vs.foldl (fun (a : List Int × St) v => ((a.1 ++ [(growP rest (i + 1) (given x.name v f) a.2).1]), (growP rest (i + 1) (given x.name v f) a.2).2)) a).1, InR (vs.foldl (fun (a : List Int × St) v => ((a.1 ++ [(growP rest (i + 1) (given x.name v f) a.2).1]), (growP rest (i + 1) (given x.name v f) a.2).2)) a).2.l c) ∧
              s.l.length ≤ (vs.foldl (fun (a : List Int × St) v => ((a.1 ++ [(growP rest (i + 1) (given x.name v f) a.2).1]), (growP rest (i + 1) (given x.name v f) a.2).2)) a).2.l.length := by
            intro vs
            induction vs with
            | nil => intro a h1 h2 h3; exact ⟨h1, h2, h3⟩
            | cons v vs ihv =>
              intro a h1 h2 h3
              rw [List.foldl_cons]
              obtain ⟨g1, g2, g3⟩ := ih (i + 1) (given x.name v f) a.2 (fun y hy => hlh y (by simp [hy])) h1
              refine ihv _ g1 (fun c hc => ?_) (by simp only; omega)
              rcases List.mem_append.1 hc with hc | hc
              · exact (h2 c hc).mono g3
              · rw [List.mem_singleton.1 hc]; exact g2
          obtain ⟨k1, k2, k3⟩ := key (startsL x f) ([], { s with full := false }) ⟨h.rng, h.vals⟩ (fun c hc => by cases hc) (Nat.le_refl _)
          have hlen := growKids_len rest i x f (startsL x f) { s with full := false }
          have hsp := starts_pos f (hlh x (by simp))
          unfold growKids at hlen
          generalize (startsL x f).foldl (fun (a : List Int × St) v => ((a.1 ++ [(growP rest (i + 1) (given x.name v f) a.2).1]), (growP rest (i + 1) (given x.name v f) a.2).2)) ([], { s with full := false }) = p at *
          obtain ⟨h1, h2, h3⟩ := inner_rg (i := i) (st := startsL x f) k1.rng k2 (by omega)
          refine ⟨⟨h1, fun q hq => ?_⟩, h2, by simp only [St.inner]; omega⟩
          simp only [St.inner] at hq ⊢
          unfold mput at hq
          split at hq
          · obtain ⟨r, hr, rfl⟩ := List.mem_map.1 hq
            split
            · exact h2
            · exact (k1.vals r hr).mono h3
          · rcases List.mem_append.1 hq with hq | hq
            · exact (k1.vals q hq).mono h3
            · rw [List.mem_singleton.1 hq]; exact h2
end Go.Proofs.YtfajbcjcigajfaaGreatDoor
/- Plain law, seventh part: the nodes that grow makes are small. -/
namespace Go.Proofs.YtfajbcjcigajfaaGreatDoor

/-- No node has more than K kids or cuts. -/
def Sm (K : Nat) (l : List Nd) : Prop := ∀ x ∈ l, x.kids.length ≤ K ∧ x.cuts.length ≤ K
theorem sm_add {K : Nat} {l : List Nd} {x : Nd} (h : Sm K l) (h1 : x.kids.length ≤ K) (h2 : x.cuts.length ≤ K) : Sm K (addN l x) := by
  unfold addN
  split
  · exact h
  · intro y hy
    rcases List.mem_append.1 hy with hy | hy
    · exact h y hy
    · rw [List.mem_singleton.1 hy]; exact ⟨h1, h2⟩
theorem innerR_le {α : Type} [DecidableEq α] : ∀ (ss : List Int) (ks : List α) (k0 : α), (innerR k0 ss ks).2.length ≤ ks.length
  | [], ks, k0 => by simp [innerR]
  | s :: ss, [], k0 => by simp [innerR]
  | s :: ss, k :: ks, k0 => by
    simp only [innerR]
    split
    · have := innerR_le ss ks k0; simp only [List.length_cons]; omega
    · have := innerR_le ss ks k; simp only [List.length_cons]; omega
theorem sm_inner {K : Nat} {l : List Nd} {i : Int} {st kids : List Int} (h : Sm K l) (hk : kids.length ≤ K) (hp : 0 < kids.length) : Sm K (innerK l i st kids).2 := by
  match kids, hp with
  | k0 :: ks, _ =>
    have h1 := innerR_le st.tail ks k0
    have h2 := innerR_len st.tail ks k0
    unfold innerK
    simp only [List.headD_cons, List.tail_cons]
    split
    · exact h
    · rename_i cs k ks2 he
      rw [he] at h1 h2
      simp only [List.length_cons] at hk h1 h2
      exact sm_add h (by simp only [List.length_cons]; omega) (by simp only; omega)
theorem starts_le {x : Fc} {f : Fm} (h : nodesF f ≤ 200) : (startsL x f).length ≤ 401 := by
  unfold startsL
  have h0 := cuts_len x.name f
  have h1 := Lib.compact_length_le (((x.lo :: cutsF x.name f).mergeSort fun a b => decide (a ≤ b)).filter fun n => !outB x n)
  have h2 := List.length_filter_le (fun n => !outB x n) ((x.lo :: cutsF x.name f).mergeSort fun a b => decide (a ≤ b))
  have h3 : ((x.lo :: cutsF x.name f).mergeSort fun a b => decide (a ≤ b)).length = (x.lo :: cutsF x.name f).length := List.length_mergeSort _
  simp only [List.length_cons] at h3
  omega
theorem grow_sm {fs : List Fc} : ∀ (rest : List Fc) (i : Int) (f : Fm) (s : St), (∀ x ∈ rest, x.lo ≤ x.hi) → OkF fs f → nodesF f ≤ 200 → Sm 1000 s.l → Sm 1000 (growP rest i f s).2.l := by
  have leaf : ∀ (s : St) (b : Bool), Sm 1000 s.l → Sm 1000 (s.leaf b).2.l := fun s b h => sm_add h (Nat.zero_le _) (Nat.zero_le _)
  intro rest
  induction rest with
  | nil =>
    intro i f s _ _ _ h
    unfold growP
    split
    · exact leaf s _ h
    · exact leaf _ _ h
  | cons x rest ih =>
    intro i f s hlh hok hn h
    unfold growP
    split
    · exact leaf s _ h
    · split
      · exact leaf _ _ h
      · split
        · exact h
        · have key : ∀ (vs : List Int) (a : List Int × St), Sm 1000 a.2.l →
              Sm 1000 (vs.foldl (fun (a : List Int × St) v => ((a.1 ++ [(growP rest (i + 1) (given x.name v f) a.2).1]), (growP rest (i + 1) (given x.name v f) a.2).2)) a).2.l := by
            intro vs
            induction vs with
            | nil => intro a h1; exact h1
            | cons v vs ihv =>
              intro a h1
              rw [List.foldl_cons]
              exact ihv _ (ih (i + 1) (given x.name v f) a.2 (fun y hy => hlh y (by simp [hy])) (given_ok x.name v hok) (Nat.le_trans (given_nodes x.name v f (ok_form hok)) hn) h1)
          have k1 := key (startsL x f) ([], { s with full := false }) h
          have hlen := growKids_len rest i x f (startsL x f) { s with full := false }
          have hsp := starts_pos f (hlh x (by simp))
          have hsl := starts_le (x := x) hn
          unfold growKids at hlen
          generalize (startsL x f).foldl (fun (a : List Int × St) v => ((a.1 ++ [(growP rest (i + 1) (given x.name v f) a.2).1]), (growP rest (i + 1) (given x.name v f) a.2).2)) ([], { s with full := false }) = p at *
          exact sm_inner k1 (by omega) (by omega)
end Go.Proofs.YtfajbcjcigajfaaGreatDoor
