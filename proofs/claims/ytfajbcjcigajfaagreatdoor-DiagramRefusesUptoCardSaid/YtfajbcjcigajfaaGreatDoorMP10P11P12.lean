/- Part of the proof of a law of customhouselaw26: the texts P10 P11 P12. -/
import Derived.Test.YtfajbcjcigajfaaGreatDoorMF1F2F3
import Derived.Test.YtfajbcjcigajfaaGreatDoorMP8P9
import Derived.Test.YtfajbcjcigajfaaGreatDoorMQ2Q3
import Derived.Test.YtfajbcjcigajfaaGreatDoorMR3
/- Plain law, tenth part: a canonical tree, written down, is valid, and holds as the tree answers; Build's diagram is one. -/
namespace Go.Proofs.YtfajbcjcigajfaaGreatDoor
open Classical

mutual
theorem visitT_all {P : Tr → Prop} (hk : ∀ s, P s → ∀ k ∈ s.kids, P k) : ∀ (t : Tr) (o : List Tr), P t → ∀ s ∈ visitT o t, s ∈ o ∨ P s
  | .leaf b, o, ht, s, hs => by
    rw [visitT] at hs
    split at hs
    · exact .inl hs
    · rcases List.mem_append.1 hs with hs | hs
      · exact .inl hs
      · rw [List.mem_singleton.1 hs]; exact .inr ht
  | .ask i cs ks, o, ht, s, hs => by
    rw [visitT] at hs
    split at hs
    · exact .inl hs
    · rcases visitTs_all hk ks _ (fun k hkk => hk _ ht k hkk) s hs with hs | hs
      · rcases List.mem_append.1 hs with hs | hs
        · exact .inl hs
        · rw [List.mem_singleton.1 hs]; exact .inr ht
      · exact .inr hs
theorem visitTs_all {P : Tr → Prop} (hk : ∀ s, P s → ∀ k ∈ s.kids, P k) : ∀ (ts : List Tr) (o : List Tr), (∀ t ∈ ts, P t) → ∀ s ∈ visitTs o ts, s ∈ o ∨ P s
  | [], o, _, s, hs => by rw [visitTs] at hs; exact .inl hs
  | t :: ts, o, ht, s, hs => by
    rw [visitTs] at hs
    rcases visitTs_all hk ts _ (fun u hu => ht u (by simp [hu])) s hs with hs | hs
    · exact visitT_all hk t o (ht t (by simp)) s hs
    · exact .inr hs
end
def CanS (fs : List Fc) (s : Tr) : Prop := ∃ n : Int, 0 ≤ n ∧ Can fs n s
theorem canS_kids {fs : List Fc} : ∀ s, CanS fs s → ∀ k ∈ s.kids, CanS fs k := by
  rintro s ⟨n, h0, h⟩ k hk
  cases h with
  | leaf => cases hk
  | ask _ i cs ks h1 h2 h3 h4 h5 h6 h7 => exact ⟨i + 1, by omega, h7 k hk⟩
theorem visit_can {fs : List Fc} {t : Tr} (h : Can fs 0 t) : ∀ s ∈ visitT [] t, CanS fs s := fun s hs => by
  rcases visitT_all canS_kids t [] ⟨0, Int.le_refl _, h⟩ s hs with h | h
  · cases h
  · exact h
theorem visit_bare {fs : List Fc} {t : Tr} (h : Can fs 0 t) : ∀ s ∈ visitT [] t, NoBare s := fun s hs => by
  obtain ⟨n, _, h⟩ := visit_can h s hs
  exact h.noBare
theorem posT_inj {o : List Tr} {s t : Tr} (hs : s ∈ o) (ht : t ∈ o) (h : posT o s = posT o t) : s = t := by
  rw [← (atT_pos hs).1, ← (atT_pos ht).1, h]
theorem nd_pos {o : List Tr} {s : Tr} (hs : s ∈ o) : ndAt (serT o) (posT o s) = ndT o s := by
  obtain ⟨h1, h2, h3⟩ := atT_pos hs
  rw [serT_at ⟨h2, h3⟩, h1]
theorem adj_at {α : Type} : ∀ {l : List α}, Adj l → ∀ (j : Nat) (h : j + 1 < l.length), l[j] ≠ l[j + 1]
  | [], _, j, h => by simp at h
  | [a], _, j, h => by simp at h
  | a :: b :: l, ha, 0, h => ha.1
  | a :: b :: l, ha, j + 1, h => adj_at (l := b :: l) ha.2 j (by simpa using h)
theorem can_proper {fs : List Fc} {o : List Tr} (ho : Clo o) {s : Tr} (hs : s ∈ o) (hc : CanS fs s) : properN (serT o) fs (ndT o s) = true := by
  obtain ⟨n, h0, hc⟩ := hc
  cases hc with
  | leaf n b => simp [properN, ndT]
  | ask _ i cs ks h1 h2 h3 h4 h5 h6 h7 =>
    have hcl : 0 < cs.length := List.length_pos_iff.2 h4
    have ho' := ho.kids _ hs
    simp only [Tr.kids] at ho'
    have hodd : oddN fs (ndT o (.ask i cs ks)) = false := by
      have e1 : (ndT o (.ask i cs ks)).leaf = false := rfl
      have e2 : (ndT o (.ask i cs ks)).fact = i := rfl
      have e3 : (ndT o (.ask i cs ks)).cuts = cs := rfl
      have e4 : (ndT o (.ask i cs ks)).kids.length = ks.length := by simp [ndT]
      unfold oddN
      rw [e1, e2, e3, e4]
      simp only [Bool.false_or, Bool.or_eq_false_iff, decide_eq_false_iff_not]
      refine ⟨⟨⟨by omega, by omega⟩, by omega⟩, by omega⟩
    unfold properN
    have hk0 : ¬ (ndT o (.ask i cs ks)).kids.length = 0 := by simp only [ndT, List.length_map]; omega
    rw [if_neg hk0, hodd, if_neg (by simp)]
    rw [Bool.and_eq_true]
    refine ⟨(ascB_iff _ _ _).2 h3, ?_⟩
    unfold kidsB
    rw [List.all_eq_true]
    intro j hj
    have hj := List.mem_range.1 hj
    simp only [ndT, List.length_map] at hj
    have hget : ∀ (q : Nat) (hq : q < ks.length), (ndT o (.ask i cs ks)).kids.getD q 0 = posT o ks[q] := by
      intro q hq
      simp [ndT, hq]
    have hm : ks[j] ∈ o := ho' _ (List.getElem_mem hj)
    obtain ⟨_, p1, p2⟩ := atT_pos hm
    rw [hget j hj]
    unfold kidB
    rw [nd_pos hm]
    simp only [Bool.and_eq_true, Bool.not_eq_true', decide_eq_true_eq, decide_eq_false_iff_not, Bool.and_eq_false_iff]
    refine ⟨⟨⟨by omega, by rw [serT_len]; exact p2⟩, ?_⟩, ?_⟩
    · by_cases hj0 : 0 < j
      · right
        rw [hget (j - 1) (by omega)]
        intro e
        have e := posT_inj (ho' _ (List.getElem_mem _)) hm e
        have := adj_at h6 (j - 1) (by omega)
        have ej : j - 1 + 1 = j := by omega
        simp only [ej] at this
        exact this e
      · exact .inl hj0
    · have h8 := h7 _ (List.getElem_mem hj)
      revert h8
      generalize ks[j] = k
      intro h8
      cases h8 with
      | leaf n b => left; simp [ndT]
      | ask _ i' cs' ks' g1 => right; simp only [ndT]; omega
theorem can_news {fs : List Fc} {t : Tr} (h : Can fs 0 t) : newsB (serT (visitT [] t)) (serT (visitT [] t)).length = true := by
  have ho := (visit_clo t).1
  have hT := tb_ser ho (visit_bare h)
  unfold newsB
  rw [List.all_eq_true]
  intro j hj
  have hj := List.mem_range.1 hj
  unfold newB
  rw [decide_eq_true_eq]
  have hn : findN ((serT (visitT [] t)).take j) ((serT (visitT [] t)).getD j nd0) = none := by
    unfold findN
    rw [List.findIdx?_eq_none_iff]
    intro x hx
    obtain ⟨q, hq, e⟩ := List.mem_take_iff_getElem.1 hx
    rw [Bool.eq_false_iff]
    intro e2
    have e2 := (sameN_iff _ _).1 e2
    have hqj : q < j := by omega
    have r1 : InR (serT (visitT [] t)) (q : Int) := ⟨by omega, by omega⟩
    have r2 : InR (serT (visitT [] t)) (j : Int) := ⟨by omega, by omega⟩
    have a1 : ndAt (serT (visitT [] t)) (q : Int) = x := by
      unfold ndAt
      rw [Int.toNat_natCast, List.getD_eq_getElem?_getD, List.getElem?_eq_getElem (by omega)]
      exact e
    have a2 : ndAt (serT (visitT [] t)) (j : Int) = x := by
      unfold ndAt
      rw [Int.toNat_natCast]; exact e2
    have := hT.inj q j r1 r2 (by rw [hT.un _ r1, hT.un _ r2, a1, a2])
    omega
  unfold posN
  rw [hn]
  simp only [Option.getD_none, List.length_take]
  omega
theorem visit_pos (t : Tr) : 0 < (visitT [] t).length := by
  obtain ⟨_, h2⟩ := visit_clo t
  cases h : visitT [] t with
  | nil => rw [h] at h2; cases h2
  | cons x xs => simp
theorem can_valid {fs : List Fc} {t : Tr} (hv : validD fs = true) (h : Can fs 0 t) (hl : (visitT [] t).length ≤ 4000) : validG (serT (visitT [] t)) fs = true := by
  have ho := (visit_clo t).1
  have hp := visit_pos t
  have hany : ((serT (visitT [] t)).any fun x => !properN (serT (visitT [] t)) fs x) = false := by
    rw [Bool.eq_false_iff]
    intro e
    obtain ⟨x, hx, e⟩ := List.any_eq_true.1 e
    unfold serT at hx
    obtain ⟨s, hs, rfl⟩ := List.mem_map.1 hx
    rw [can_proper ho hs (visit_can h s hs)] at e
    cases e
  unfold validG
  rw [hv, hany, can_news h, ser_again (visit_bare h), (sameG_iff _ _).2 rfl, serT_len]
  have a1 : decide ((visitT [] t).length = 0) = false := decide_eq_false (by omega)
  have a2 : decide (4000 < (visitT [] t).length) = false := decide_eq_false (by omega)
  rw [a1, a2]; rfl

/-! ### holding -/
mutual
def pathT (g : Int → Int) : Tr → List Tr
  | .leaf b => [.leaf b]
  | .ask i cs ks => .ask i cs ks :: pathTs g ks (selI cs (g i))
def pathTs (g : Int → Int) : List Tr → Nat → List Tr
  | [], _ => []
  | t :: _, 0 => pathT g t
  | _ :: ts, j + 1 => pathTs g ts j
end
theorem pathTs_at (g : Int → Int) : ∀ (ks : List Tr) (j : Nat) (k : Tr), ks[j]? = some k → pathTs g ks j = pathT g k
  | [], j, k, h => by simp at h
  | t :: ts, 0, k, h => by simp at h; rw [pathTs, h]
  | t :: ts, j + 1, k, h => by rw [pathTs]; exact pathTs_at g ts j k (by simpa using h)
theorem path_ask {fs : List Fc} {n i : Int} {cs : List Int} {ks : List Tr} (h : Can fs n (.ask i cs ks)) (g : Int → Int) : pathT g (.ask i cs ks) = .ask i cs ks :: pathT g (kidAt cs ks (g i)) ∧ ks[selI cs (g i)]? = some (kidAt cs ks (g i)) := by
  cases h with
  | ask _ _ _ _ h1 h2 h3 h4 h5 h6 h7 =>
    have hle : selI cs (g i) < ks.length := by
      have := List.findIdx_le_length (p := fun c => decide (g i < c)) (xs := cs)
      unfold selI; omega
    have hk : ks[selI cs (g i)]? = some (kidAt cs ks (g i)) := by
      unfold kidAt
      rw [List.getD_eq_getElem?_getD, List.getElem?_eq_getElem hle]; rfl
    exact ⟨by rw [pathT, pathTs_at g ks _ _ hk], hk⟩
theorem path_ok {fs : List Fc} {o : List Tr} (ho : Clo o) (g : Int → Int) {n : Int} {t : Tr} (h : Can fs n t) : t ∈ o → (∀ s ∈ pathT g t, Can fs n s ∧ s ∈ o) ∧ (pathT g t).Nodup := by
  induction h with
  | leaf n b => intro hm; rw [pathT]; exact ⟨fun s hs => by rw [List.mem_singleton.1 hs]; exact ⟨.leaf _ _, hm⟩, by simp⟩
  | ask n i cs ks h1 h2 h3 h4 h5 h6 h7 ih =>
    intro hm
    have hc : Can fs n (.ask i cs ks) := .ask n i cs ks h1 h2 h3 h4 h5 h6 h7
    obtain ⟨e1, e2⟩ := path_ask hc g
    have hk := (ev_ask hc g).2
    obtain ⟨a, b⟩ := ih _ hk (ho.kids _ hm _ hk)
    rw [e1]
    refine ⟨fun s hs => ?_, ?_⟩
    · rcases List.mem_cons.1 hs with rfl | hs
      · exact ⟨hc, hm⟩
      · exact ⟨(a s hs).1.mono (by omega), (a s hs).2⟩
    · rw [List.nodup_cons]
      refine ⟨fun hmem => ?_, b⟩
      have := (a _ hmem).1
      cases this with
      | ask _ _ _ _ g1 => omega
theorem next_sel {o : List Tr} {i : Int} {cs : List Int} {ks : List Tr} (h5 : ks.length = cs.length + 1) (v : Int) : nextI (ndT o (.ask i cs ks)) v = (selI cs v : Nat) := by
  unfold nextI idxI selI ndT
  simp only [List.length_map]
  cases hf : cs.findIdx? fun c => decide (v < c) with
  | none =>
    simp only
    have : cs.findIdx (fun c => decide (v < c)) = cs.length := by
      rw [List.findIdx?_eq_none_iff] at hf
      exact List.findIdx_eq_length_of_false hf
    rw [if_pos (by omega), this, h5]
    omega
  | some q =>
    simp only
    rw [if_neg (by omega)]
    have := (List.findIdx?_eq_some_iff_findIdx_eq.1 hf).2
    rw [this]
theorem walk_ser {fs : List Fc} {o : List Tr} (ho : Clo o) {c : List Int} (hcl : c.length = fs.length) {n : Int} {t : Tr} (h : Can fs n t) : 0 ≤ n → t ∈ o → ∀ m, (pathT (fun i => c.getD i.toNat 0) t).length ≤ m → walkG (serT o) c m (posT o t) = evT (fun i => c.getD i.toNat 0) t := by
  induction h with
  | leaf n b =>
    intro h0 hm m hl
    rw [pathT] at hl
    match m with
    | 0 => simp at hl
    | m + 1 =>
      obtain ⟨_, p1, p2⟩ := atT_pos hm
      have e := nd_pos hm
      unfold ndAt nd0 at e
      rw [walkG, if_neg (by rw [serT_len]; omega), e, evT]
      simp [ndT]
  | ask n i cs ks h1 h2 h3 h4 h5 h6 h7 ih =>
    intro h0 hm m hl
    have hc : Can fs n (.ask i cs ks) := .ask n i cs ks h1 h2 h3 h4 h5 h6 h7
    obtain ⟨e1, e2⟩ := path_ask hc (fun i => c.getD i.toNat 0)
    obtain ⟨e3, hk⟩ := ev_ask hc (fun i => c.getD i.toNat 0)
    rw [e1] at hl
    match m with
    | 0 => simp at hl
    | m + 1 =>
      obtain ⟨_, p1, p2⟩ := atT_pos hm
      have e := nd_pos hm
      unfold ndAt nd0 at e
      have hsl := (List.getElem?_eq_some_iff.1 e2).1
      have hgx : (serT o).getD (posT o (.ask i cs ks)).toNat ⟨false, 0, [], []⟩ = ndT o (.ask i cs ks) := e
      rw [walkG, if_neg (by rw [serT_len]; omega)]
      simp only [hgx]
      have hfact : (ndT o (.ask i cs ks)).fact = i := rfl
      have hkids : (ndT o (.ask i cs ks)).kids = ks.map (posT o) := rfl
      have hkl : (ndT o (.ask i cs ks)).kids.length = ks.length := by rw [hkids, List.length_map]
      have q1 : ¬ (ndT o (.ask i cs ks)).kids.length = 0 := by omega
      have q2 : ¬ ((ndT o (.ask i cs ks)).fact < 0 ∨ (c.length : Int) ≤ (ndT o (.ask i cs ks)).fact) := by rw [hfact]; omega
      have q3 : ¬ (((ndT o (.ask i cs ks)).kids.length : Int) ≤ nextI (ndT o (.ask i cs ks)) (c.getD (ndT o (.ask i cs ks)).fact.toNat 0)) := by
        rw [hfact, next_sel h5, hkl]
        omega
      rw [if_neg q1, if_neg q2, if_neg q3, hfact, next_sel h5, hkids, Int.toNat_natCast, e3]
      have hget : (ks.map (posT o)).getD (selI cs (c.getD i.toNat 0)) 0 = posT o (kidAt cs ks (c.getD i.toNat 0)) := by
        rw [List.getD_eq_getElem?_getD, List.getElem?_map, e2]; rfl
      rw [hget]
      exact ih _ hk (by omega) (ho.kids _ hm _ hk) m (by simpa using hl)
theorem pos_root (t : Tr) : posT (visitT [] t) t = 0 ∧ t ∈ visitT [] t := by
  obtain ⟨_, h2⟩ := visit_clo t
  cases h : visitT [] t with
  | nil => rw [h] at h2; cases h2
  | cons x xs =>
    rw [h] at h2
    simp at h2
    subst h2
    refine ⟨?_, by simp⟩
    unfold posT
    simp [List.findIdx_cons]
theorem holds_ser {fs : List Fc} {t : Tr} (h : Can fs 0 t) {c : List Int} (hcl : c.length = fs.length) : holdsG (serT (visitT [] t)) c = evT (fun i => c.getD i.toNat 0) t := by
  have ho := (visit_clo t).1
  obtain ⟨h1, h2⟩ := pos_root t
  obtain ⟨h3, h4⟩ := path_ok ho (fun i => c.getD i.toNat 0) h h2
  unfold holdsG
  have hw := walk_ser ho hcl h (Int.le_refl _) h2 (serT (visitT [] t)).length (by rw [serT_len]; exact nodup_len _ _ h4 (fun s hs => (h3 s hs).2))
  rw [h1] at hw
  exact hw
theorem fit_case {fs : List Fc} {c : List Int} (h : fitsF fs c = true) : c.length = fs.length ∧ Fit fs (fun i => c.getD i.toNat 0) := by
  unfold fitsF at h
  simp only [Bool.and_eq_true, decide_eq_true_eq] at h
  refine ⟨h.1.2, fun i h0 hi => ?_⟩
  have hlt : i.toNat < fs.length := by omega
  have hlc : i.toNat < c.length := by omega
  have h2 := h.2
  unfold rangeF at h2
  have h3 := List.all_eq_true.1 h2 (inF fs[i.toNat] c[i.toNat]) (List.mem_iff_getElem?.2 ⟨i.toNat, by rw [List.getElem?_zipWith, List.getElem?_eq_getElem hlt, List.getElem?_eq_getElem hlc]⟩)
  unfold inF at h3
  simp only [id, Bool.and_eq_true, decide_eq_true_eq] at h3
  have h4 := lo_at (List.getElem?_eq_getElem hlt)
  have e : ((i.toNat : Nat) : Int) = i := by omega
  rw [e] at h4
  rw [h4.1, h4.2]
  simpa [hlc] using h3

/-! ### Build -/
theorem ok_names {fs : List Fc} : ∀ (f : Fm), OkF fs f → ∀ nm ∈ namesF f, (∃ x ∈ fs, x.name = nm) ∧ nm ≠ ⟨#[]⟩ := by
  intro f
  induction f using Fm.ind with
  | h f ih =>
    intro hf nm hnm
    rcases (names_mem f).1 hnm with ⟨h3, rfl⟩ | ⟨k, hk, hs⟩
    · have h1 := hf.head
      unfold lookI at h1
      split at h1
      · cases h1
      · rename_i hform
        rw [if_neg (by simp [h3])] at h1
        split at h1
        · cases h1
        · split at h1
          · cases h1
          · rename_i hidx
            refine ⟨?_, ?_⟩
            · unfold idxI at hidx
              cases hfi : fs.findIdx? (sameName f.name) with
              | none => rw [hfi] at hidx; simp at hidx
              | some j =>
                obtain ⟨hj, h5, _⟩ := List.findIdx?_eq_some_iff_getElem.1 hfi
                exact ⟨_, List.getElem_mem hj, sameName_iff.1 h5⟩
            · have hform : formedB f.op f.name f.cmp f.n f.kids.length = true := by simpa using hform
              rcases formed_cases hform with ⟨_, _, _, _, hn⟩ | ⟨h, _⟩
              · intro e
                rw [e] at hn
                revert hn; decide
              · exact absurd h3 h
    · exact ih k hk (hf.kid hk) nm hs
theorem build_tree {fs : List Fc} {f : Fm} (h : (buildK fs f).2 = 0) : validD fs = true ∧ checkF fs f = 0 ∧ ∃ t, Can fs 0 t ∧ (buildK fs f).1 = serT (visitT [] t) ∧ (visitT [] t).length ≤ 4000 ∧ ∀ g, Fit fs g → evT g t = evF (rho fs g) f := by
  unfold buildK at h ⊢
  by_cases h1 : validD fs = false ∨ checkF fs f ≠ 0
  · rw [if_pos h1] at h; cases h
  · rw [if_neg h1] at h ⊢
    have hv : validD fs = true := by
      cases hv : validD fs with
      | true => rfl
      | false => exact absurd (.inl hv) h1
    have hck : checkF fs f = 0 := Classical.byContradiction fun e => h1 (.inr e)
    by_cases h2 : 24 < (addAll [] (namesF f)).length
    · rw [if_pos h2] at h; cases h
    · rw [if_neg h2] at h ⊢
      by_cases h3 : (growB fs f).2.full = true
      · rw [if_pos h3] at h; cases h
      · rw [if_neg h3] at h ⊢
        refine ⟨hv, hck, ?_⟩
        obtain ⟨hok, _, _⟩ := check_ok hck
        have hform := ok_form hok
        have hD := dom_ok hv
        obtain ⟨T, hg⟩ := grow_law hD fs 0 (given ⟨#[]⟩ 0 f) ⟨[], [], false⟩ (fun _ => default) rfl (Nat.zero_le _) (given_form _ _ hform) (given_nrm _ _ _ hform) (fun nm hm => (ok_names f hok nm (given_names _ _ _ hform nm hm).1).1) (tb_nil _) (fun p hp => by cases hp) (by
          have := h3
          unfold growB at this
          simpa using this)
        have hg : Good fs 0 (given ⟨#[]⟩ 0 f) ⟨[], [], false⟩ (fun _ => default) (growB fs f) T := hg
        have hvis := visit_ok hg.tb hg.rng
        have hlen : (visitT [] (T (growB fs f).1)).length = (visitL (growB fs f).2.l ((growB fs f).2.l.length + 1) [] (growB fs f).1).length := by rw [← hvis.1, List.length_map]
        unfold fromK at h ⊢
        by_cases h4 : 4000 < (visitL (growB fs f).2.l ((growB fs f).2.l.length + 1) [] (growB fs f).1).length
        · rw [if_pos h4] at h; cases h
        · rw [if_neg h4]
          refine ⟨T (growB fs f).1, hg.can, from_ser hg.tb hg.rng, by omega, fun g hgf => ?_⟩
          rw [hg.ev g hgf, given_ev _ _ _ _ hform]
          refine ev_names f (fun s hs => ?_)
          unfold upF
          rw [if_neg (ok_names f hok s hs).2]
theorem build_err {fs : List Fc} {f : Fm} (h : (buildK fs f).2 ≠ 0) : (buildK fs f).1 = [] ∧ ((buildK fs f).2 = 2 ∨ validD fs = false ∨ checkF fs f ≠ 0) := by
  unfold buildK at h ⊢
  split
  · rename_i h1; exact ⟨rfl, .inr h1⟩
  · split
    · exact ⟨rfl, .inl rfl⟩
    · split
      · exact ⟨rfl, .inl rfl⟩
      · rename_i h1 h2 h3
        rw [if_neg h1, if_neg h2, if_neg h3] at h
        unfold fromK at h ⊢
        split
        · exact ⟨rfl, .inl rfl⟩
        · rename_i h4
          rw [if_neg h4] at h; exact absurd rfl h
/-- Build's diagram is valid, and holds for a case that fits as the formula does. -/
theorem build_means {fs : List Fc} {f : Fm} (h : (buildK fs f).2 = 0) : validG (buildK fs f).1 fs = true ∧ ∀ c, fitsF fs c = true → holdsG (buildK fs f).1 c = holdsF fs c f := by
  obtain ⟨hv, hck, t, hc, e, hl, hev⟩ := build_tree h
  rw [e]
  refine ⟨can_valid hv hc hl, fun c hf => ?_⟩
  obtain ⟨hcl, hfit⟩ := fit_case hf
  rw [holds_ser hc hcl, hev _ hfit, rho_case]
  unfold holdsF
  rw [hf, hck]; rfl
end Go.Proofs.YtfajbcjcigajfaaGreatDoor
/- Plain law, eleventh part: a valid diagram is a canonical tree, written down. -/
namespace Go.Proofs.YtfajbcjcigajfaaGreatDoor
open Classical

/-- The tree from a node on, so many levels deep. -/
def trG (g : List Nd) : Nat → Int → Tr
  | 0, _ => .leaf false
  | d + 1, k => unN (ndAt g k) (trG g d)
/-- What 'proper' says of a node with kids. -/
structure PropN (g : List Nd) (fs : List Fc) (x : Nd) : Prop where
  leaf : x.leaf = false
  f0 : 0 ≤ x.fact
  f1 : x.fact < fs.length
  cuts : x.cuts ≠ []
  len : x.kids.length = x.cuts.length + 1
  asc : Asc (hiF fs x.fact) (loF fs x.fact) x.cuts
  rng : ∀ k ∈ x.kids, InR g k
  adj : Adj x.kids
  up : ∀ k ∈ x.kids, (ndAt g k).kids ≠ [] → x.fact < (ndAt g k).fact
theorem adj_of {α : Type} : ∀ (l : List α), (∀ (j : Nat) (h : j + 1 < l.length), l[j] ≠ l[j + 1]) → Adj l
  | [], _ => trivial
  | [_], _ => trivial
  | a :: b :: l, h => ⟨h 0 (by simp), adj_of (b :: l) (fun j hj => h (j + 1) (by simpa using hj))⟩
theorem proper_spec {g : List Nd} {fs : List Fc} {x : Nd} (h : properN g fs x = true) (hk : x.kids ≠ []) : PropN g fs x := by
  unfold properN at h
  rw [if_neg (by simpa using hk)] at h
  split at h
  · cases h
  · rename_i ho
    have ho : oddN fs x = false := by simpa using ho
    unfold oddN at ho
    simp only [Bool.or_eq_false_iff, decide_eq_false_iff_not] at ho
    obtain ⟨⟨⟨⟨h1, h2⟩, h3⟩, h4⟩, h5⟩ := ho
    rw [Bool.and_eq_true] at h
    obtain ⟨ha, hb⟩ := h
    unfold kidsB at hb
    rw [List.all_eq_true] at hb
    have key : ∀ (j : Nat) (hj : j < x.kids.length), InR g x.kids[j] ∧ (0 < j → x.kids.getD (j - 1) 0 ≠ x.kids[j]) ∧ ((ndAt g x.kids[j]).kids ≠ [] → x.fact < (ndAt g x.kids[j]).fact) := by
      intro j hj
      have hj2 := hb j (List.mem_range.2 hj)
      have hg : x.kids.getD j 0 = x.kids[j] := by simp [hj]
      rw [hg] at hj2
      unfold kidB at hj2
      simp only [Bool.and_eq_true, Bool.not_eq_true', decide_eq_true_eq, decide_eq_false_iff_not, Bool.and_eq_false_iff] at hj2
      obtain ⟨⟨⟨a, b⟩, c⟩, d⟩ := hj2
      refine ⟨⟨by omega, b⟩, fun h0 => ?_, fun hne => ?_⟩
      · rcases c with c | c
        · omega
        · exact c
      · rcases d with d | d
        · exact absurd (List.length_pos_iff.2 hne) d
        · omega
    refine ⟨h1, by omega, by omega, fun e => h4 (by rw [e]; rfl), by omega, (ascB_iff _ _ _).1 ha, fun k hk => ?_, adj_of _ (fun j hj => ?_), fun k hk => ?_⟩
    · obtain ⟨j, hj, rfl⟩ := List.mem_iff_getElem.1 hk
      exact (key j hj).1
    · have := (key (j + 1) hj).2.1 (by omega)
      have e : x.kids.getD (j + 1 - 1) 0 = x.kids[j] := by
        rw [Nat.add_sub_cancel]
        simp [show j < x.kids.length by omega]
      rw [e] at this
      exact this
    · obtain ⟨j, hj, rfl⟩ := List.mem_iff_getElem.1 hk
      exact (key j hj).2.2
theorem proper_leaf {g : List Nd} {fs : List Fc} {x : Nd} (h : properN g fs x = true) (hk : x.kids = []) : x.fact = 0 ∧ x.cuts = [] := by
  unfold properN at h
  rw [if_pos (by rw [hk]; rfl)] at h
  simp only [Bool.and_eq_true, decide_eq_true_eq] at h
  exact ⟨h.1, List.eq_nil_of_length_eq_zero h.2⟩
theorem ndAt_mem {g : List Nd} {k : Int} (hk : InR g k) : ndAt g k ∈ g := by
  have hlt : k.toNat < g.length := by have := hk.1; have := hk.2; omega
  unfold ndAt
  rw [List.getD_eq_getElem?_getD, List.getElem?_eq_getElem hlt]
  exact List.getElem_mem hlt
/-- How many levels a node needs. -/
noncomputable def lvl (g : List Nd) (fs : List Fc) (k : Int) : Nat := if (ndAt g k).kids = [] then 1 else (fs.length : Int).toNat + 1 - (ndAt g k).fact.toNat
theorem lvl_kid {g : List Nd} {fs : List Fc} {k c : Int} (h : PropN g fs (ndAt g k)) (hk : (ndAt g k).kids ≠ []) (hc : c ∈ (ndAt g k).kids) : lvl g fs c + 1 ≤ lvl g fs k := by
  unfold lvl
  rw [if_neg hk]
  have h0 := h.f0
  have h1 := h.f1
  split
  · omega
  · rename_i hne
    have := h.up c hc hne
    omega
theorem tr_stable {g : List Nd} {fs : List Fc} (hp : ∀ k, InR g k → properN g fs (ndAt g k) = true) : ∀ (d e : Nat) (k : Int), InR g k → lvl g fs k ≤ d → lvl g fs k ≤ e → trG g d k = trG g e k
  | 0, e, k, hk, h1, _ => by
    exfalso
    unfold lvl at h1
    split at h1
    · omega
    · rename_i hne
      have := (proper_spec (hp k hk) hne).f1
      omega
  | d + 1, 0, k, hk, _, h2 => by
    exfalso
    unfold lvl at h2
    split at h2
    · omega
    · rename_i hne
      have := (proper_spec (hp k hk) hne).f1
      omega
  | d + 1, e + 1, k, hk, h1, h2 => by
    rw [trG, trG]
    by_cases hne : (ndAt g k).kids = []
    · rw [unN_nil _ hne, unN_nil _ hne]
    · have hP := proper_spec (hp k hk) hne
      refine unN_congr (fun c hc => tr_stable hp d e c (hP.rng c hc) ?_ ?_)
      · have := lvl_kid hP hne hc; omega
      · have := lvl_kid hP hne hc; omega
theorem lvl_le {g : List Nd} {fs : List Fc} (k : Int) : lvl g fs k ≤ fs.length + 1 := by
  unfold lvl
  split <;> omega
theorem news_at {g : List Nd} (h : newsB g g.length = true) : ∀ i j, InR g i → InR g j → ndAt g i = ndAt g j → i = j := by
  have key : ∀ (i j : Nat), i < j → j < g.length → ndAt g i ≠ ndAt g j := by
    intro i j hij hj e
    unfold newsB at h
    have h1 := List.all_eq_true.1 h j (List.mem_range.2 hj)
    unfold newB at h1
    rw [decide_eq_true_eq] at h1
    have hi : i < g.length := by omega
    have ei : ndAt g (i : Int) = g[i] := by unfold ndAt; rw [Int.toNat_natCast, List.getD_eq_getElem?_getD, List.getElem?_eq_getElem hi]; rfl
    have ej : ndAt g (j : Int) = g.getD j nd0 := by unfold ndAt; rw [Int.toNat_natCast]
    rw [ei, ej] at e
    rw [← e] at h1
    unfold posN at h1
    cases hf : findN (g.take j) g[i] with
    | none =>
      unfold findN at hf
      have := List.findIdx?_eq_none_iff.1 hf g[i] (List.mem_take_iff_getElem.2 ⟨i, by omega, rfl⟩)
      rw [(sameN_iff _ _).2 rfl] at this
      cases this
    | some q =>
      rw [hf] at h1
      have := (findN_some hf).1
      simp at h1 this
      omega
  intro i j hi hj e
  obtain ⟨i', rfl⟩ : ∃ i' : Nat, i = i' := ⟨i.toNat, by have := hi.1; omega⟩
  obtain ⟨j', rfl⟩ : ∃ j' : Nat, j = j' := ⟨j.toNat, by have := hj.1; omega⟩
  have h1 := hi.2
  have h2 := hj.2
  rcases Nat.lt_trichotomy i' j' with h | h | h
  · exact absurd e (key i' j' h (by omega))
  · rw [h]
  · exact absurd e.symm (key j' i' h (by omega))
theorem adj_map {α β : Type} (f : α → β) : ∀ {l : List α}, (∀ x ∈ l, ∀ y ∈ l, f x = f y → x = y) → Adj l → Adj (l.map f)
  | [], _, _ => trivial
  | [_], _, _ => trivial
  | a :: b :: l, hf, h => ⟨fun e => h.1 (hf a (by simp) b (by simp) e), adj_map f (l := b :: l) (fun x hx y hy => hf x (by simp [hx]) y (by simp [hy])) h.2⟩
theorem valid_tree {g : List Nd} {fs : List Fc} (h : validG g fs = true) : validD fs = true ∧ ∃ t, Can fs 0 t ∧ g = serT (visitT [] t) ∧ (visitT [] t).length ≤ 4000 := by
  unfold validG at h
  simp only [Bool.and_eq_true, Bool.not_eq_true', decide_eq_false_iff_not] at h
  obtain ⟨⟨⟨⟨⟨hv, h0⟩, h4⟩, hpr⟩, hnw⟩, hsm⟩ := h
  refine ⟨hv, ?_⟩
  have hp : ∀ k, InR g k → properN g fs (ndAt g k) = true := by
    intro k hk
    cases hc : properN g fs (ndAt g k) with
    | true => rfl
    | false =>
      rw [Bool.eq_false_iff] at hpr
      exact absurd (List.any_eq_true.2 ⟨_, ndAt_mem hk, by rw [hc]; rfl⟩) hpr
  have hnews := news_at hnw
  have hun : ∀ k, InR g k → trG g (fs.length + 1) k = unN (ndAt g k) (trG g (fs.length + 1)) := by
    intro k hk
    conv => lhs; rw [trG]
    by_cases hne : (ndAt g k).kids = []
    · rw [unN_nil _ hne, unN_nil _ hne]
    · have hP := proper_spec (hp k hk) hne
      refine unN_congr (fun c hc => tr_stable hp _ _ c (hP.rng c hc) ?_ (lvl_le c))
      have h1 := lvl_kid hP hne hc
      have h2 := lvl_le (g := g) (fs := fs) k
      omega
  have hrng : ∀ k, InR g k → ∀ c ∈ (ndAt g k).kids, InR g c := by
    intro k hk c hc
    exact (proper_spec (hp k hk) (List.ne_nil_of_mem hc)).rng c hc
  have hinj : ∀ (d : Nat) (i j : Int), InR g i → InR g j → lvl g fs i ≤ d → trG g (fs.length + 1) i = trG g (fs.length + 1) j → i = j := by
    intro d
    induction d with
    | zero =>
      intro i j hi hj hd e
      exfalso
      unfold lvl at hd
      split at hd
      · omega
      · rename_i hne
        have := (proper_spec (hp i hi) hne).f1
        omega
    | succ d ih =>
      intro i j hi hj hd e
      rw [hun i hi, hun j hj] at e
      refine hnews i j hi hj ?_
      by_cases hni : (ndAt g i).kids = []
      · rw [unN_nil _ hni] at e
        by_cases hnj : (ndAt g j).kids = []
        · rw [unN_nil _ hnj] at e
          obtain ⟨a1, a2⟩ := proper_leaf (hp i hi) hni
          obtain ⟨b1, b2⟩ := proper_leaf (hp j hj) hnj
          injection e with e
          revert hni hnj a1 a2 b1 b2 e
          generalize ndAt g i = x
          generalize ndAt g j = y
          intro hni hnj a1 a2 b1 b2 e
          obtain ⟨p, q, r, s⟩ := x
          obtain ⟨p', q', r', s'⟩ := y
          simp only at *
          rw [e, a1, b1, a2, b2, hni, hnj]
        · rw [unN_cons _ hnj] at e; cases e
      · rw [unN_cons _ hni] at e
        by_cases hnj : (ndAt g j).kids = []
        · rw [unN_nil _ hnj] at e; cases e
        · rw [unN_cons _ hnj] at e
          have hPi := proper_spec (hp i hi) hni
          have hPj := proper_spec (hp j hj) hnj
          injection e with e1 e2 e3
          have hk : ∀ (a b : List Int), (∀ c ∈ a, c ∈ (ndAt g i).kids) → (∀ c ∈ b, InR g c) → a.map (trG g (fs.length + 1)) = b.map (trG g (fs.length + 1)) → a = b := by
            intro a
            induction a with
            | nil => intro b _ _ e; cases b with
              | nil => rfl
              | cons y b => simp at e
            | cons x a iha => intro b ha hb e; cases b with
              | nil => simp at e
              | cons y b =>
                simp only [List.map_cons, List.cons.injEq] at e
                have hx := ha x (by simp)
                rw [ih x y (hPi.rng x hx) (hb y (by simp)) (by have := lvl_kid hPi hni hx; omega) e.1, iha b (fun c hc => ha c (by simp [hc])) (fun c hc => hb c (by simp [hc])) e.2]
          have e4 := hk _ _ (fun c hc => hc) hPj.rng e3
          have l1 := hPi.leaf
          have l2 := hPj.leaf
          revert e1 e2 e4 l1 l2
          generalize ndAt g i = x
          generalize ndAt g j = y
          intro e1 e2 e4 l1 l2
          obtain ⟨p, q, r, s⟩ := x
          obtain ⟨p', q', r', s'⟩ := y
          simp only at *
          rw [e1, e2, e4, l1, l2]
  have hT : Tb g (trG g (fs.length + 1)) := ⟨hun, hrng, fun k hk h0 => proper_leaf (hp k hk) h0, fun k hk h0 => (proper_spec (hp k hk) h0).leaf, fun i j hi hj e => hinj (fs.length + 1) i j hi hj (lvl_le i) e⟩
  have hcan : ∀ (d : Nat) (k : Int) (n : Int), InR g k → lvl g fs k ≤ d → ((ndAt g k).kids ≠ [] → n ≤ (ndAt g k).fact) → Can fs n (trG g (fs.length + 1) k) := by
    intro d
    induction d with
    | zero =>
      intro k n hk hd _
      exfalso
      unfold lvl at hd
      split at hd
      · omega
      · rename_i hne
        have := (proper_spec (hp k hk) hne).f1
        omega
    | succ d ih =>
      intro k n hk hd hn
      rw [hun k hk]
      by_cases hne : (ndAt g k).kids = []
      · rw [unN_nil _ hne]; exact .leaf _ _
      · have hP := proper_spec (hp k hk) hne
        rw [unN_cons _ hne]
        refine .ask _ _ _ _ (hn hne) hP.f1 hP.asc hP.cuts (by rw [List.length_map]; exact hP.len) (adj_map _ (fun x hx y hy e => hT.inj x y (hP.rng x hx) (hP.rng y hy) e) hP.adj) (fun t ht => ?_)
        obtain ⟨c, hc, rfl⟩ := List.mem_map.1 ht
        exact ih c _ (hP.rng c hc) (by have := lvl_kid hP hne hc; omega) (fun h => by have := hP.up c hc h; omega)
  have h0r : InR g 0 := ⟨Int.le_refl _, by omega⟩
  have e := (sameG_iff _ _).1 hsm
  rw [from_ser hT h0r] at e
  refine ⟨trG g (fs.length + 1) 0, hcan _ 0 0 h0r (lvl_le 0) (fun h => (proper_spec (hp 0 h0r) h).f0), e.symm, ?_⟩
  have := congrArg List.length e
  rw [serT_len] at this
  omega
end Go.Proofs.YtfajbcjcigajfaaGreatDoor
/- Plain law, twelfth part: Build's nodes are few and small. -/
namespace Go.Proofs.YtfajbcjcigajfaaGreatDoor

theorem ndAt_sm {K : Nat} {l : List Nd} (h : Sm K l) (k : Int) : (ndAt l k).kids.length ≤ K ∧ (ndAt l k).cuts.length ≤ K := by
  unfold ndAt
  rw [List.getD_eq_getElem?_getD]
  cases hg : l[k.toNat]? with
  | none => simp [nd0]
  | some x => exact h x (List.mem_of_getElem? hg)
theorem from_sm {K : Nat} {l : List Nd} (h : Sm K l) (r : Int) : Sm K (fromL l r) := by
  intro x hx
  unfold fromL serL at hx
  obtain ⟨k, _, rfl⟩ := List.mem_map.1 hx
  have := ndAt_sm h k
  simpa using this
theorem build_sm (fs : List Fc) (f : Fm) : (buildK fs f).1.length ≤ 4000 ∧ Sm 1000 (buildK fs f).1 := by
  unfold buildK
  split
  · exact ⟨by simp, fun x hx => by cases hx⟩
  · rename_i h1
    have hv : validD fs = true := by
      cases hv : validD fs with
      | true => rfl
      | false => exact absurd (.inl hv) h1
    have hck : checkF fs f = 0 := Classical.byContradiction fun e => h1 (.inr e)
    split
    · exact ⟨by simp, fun x hx => by cases hx⟩
    · split
      · exact ⟨by simp, fun x hx => by cases hx⟩
      · obtain ⟨hok, hnf, _⟩ := check_ok hck
        have hsm := grow_sm (fs := fs) fs 0 (given ⟨#[]⟩ 0 f) ⟨[], [], false⟩ (valid_lohi hv) (given_ok ⟨#[]⟩ 0 hok) (Nat.le_trans (given_nodes ⟨#[]⟩ 0 f (ok_form hok)) hnf) (fun x hx => by cases hx)
        unfold fromK
        split
        · exact ⟨by simp, fun x hx => by cases hx⟩
        · rename_i h4
          refine ⟨?_, from_sm hsm _⟩
          unfold fromL serL
          rw [List.length_map]
          exact Nat.le_of_not_lt h4
end Go.Proofs.YtfajbcjcigajfaaGreatDoor
