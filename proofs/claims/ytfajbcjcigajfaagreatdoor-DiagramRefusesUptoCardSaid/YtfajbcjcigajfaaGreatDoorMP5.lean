/- Part of the proof of a law of customhouselaw26: the texts P5. -/
import Derived.Test.YtfajbcjcigajfaaGreatDoorME2E3E4E5
import Derived.Test.YtfajbcjcigajfaaGreatDoorMK3K4
import Derived.Test.YtfajbcjcigajfaaGreatDoorMJ3
/- Plain law, fifth part: what is left of a formula when a fact has a value. -/
namespace Go.Proofs.YtfajbcjcigajfaaGreatDoor

theorem Fm.ind {p : Fm → Prop} (h : ∀ f, (∀ k ∈ f.kids, p k) → p f) (f : Fm) : p f := h f (fun k _hk => Fm.ind h k)
termination_by f
decreasing_by (cases f; simp_wf; have := List.sizeOf_lt_of_mem _hk; simp_all; omega)
theorem given_eq (nm : ByteArray) (v : Int) (f : Fm) : given nm v f =
  if f.op = 3 then (if f.name = nm then knownF (cmpB v f.cmp f.n) else f)
  else if f.op = 4 then notF ((f.kids.map (given nm v)).headD (bareF 0))
  else if f.op = 5 ∨ f.op = 6 then joinF f.op (f.kids.map (given nm v))
  else f := by rw [given]
def upF (g : ByteArray → Int) (nm : ByteArray) (v : Int) : ByteArray → Int := fun n => if n = nm then v else g n
def FormF (f : Fm) : Prop := AllF (fun x => formedB x.op x.name x.cmp x.n x.kids.length = true) f
theorem AllF.kid {p : Fm → Prop} {f k : Fm} (h : AllF p f) (hk : k ∈ f.kids) : AllF p k := ((AllF_eq p f).1 h).2 k hk
theorem AllF.head {p : Fm → Prop} {f : Fm} (h : AllF p f) : p f := ((AllF_eq p f).1 h).1
theorem AllF.imp {p q : Fm → Prop} (hpq : ∀ f, p f → q f) : ∀ f, AllF p f → AllF q f := by
  intro f
  induction f using Fm.ind with
  | h f ih => intro h; rw [AllF_eq]; exact ⟨hpq f h.head, fun k hk => ih k hk (h.kid hk)⟩
theorem nil_toList : (⟨#[]⟩ : ByteArray).toList = [] := by unfold ByteArray.toList; unfold ByteArray.toList.loop; rfl
theorem formed_cases {op : Int} {nm : ByteArray} {cp n : Int} {k : Nat} (h : formedB op nm cp n k = true) :
    (op = 3 ∧ k = 0 ∧ 1 ≤ cp ∧ cp ≤ 6 ∧ nameB nm = true) ∨ (op ≠ 3 ∧ nm = ⟨#[]⟩ ∧ cp = 0 ∧ n = 0 ∧ (((op = 1 ∨ op = 2) ∧ k = 0) ∨ (op = 4 ∧ k = 1) ∨ ((op = 5 ∨ op = 6) ∧ 2 ≤ k))) := by
  unfold formedB at h
  split at h
  · rename_i h3
    simp only [Bool.and_eq_true, decide_eq_true_eq] at h
    exact .inl ⟨h3, h.1.1.1.1, h.1.1.1.2, h.1.1.2, h.1.2⟩
  · rename_i h3
    split at h
    · rename_i h0
      obtain ⟨e1, e2, e3⟩ := h0
      have en : nm = ⟨#[]⟩ := by
        have h1 : nm.toList = [] := by simpa using e1
        have h2 := str_eq (a := nm) (b := ⟨#[]⟩)
        rw [h1, nil_toList] at h2
        simpa using h2
      refine .inr ⟨h3, en, e2, e3, ?_⟩
      split at h
      · rename_i h1; exact .inl ⟨h1, by simpa using h⟩
      · split at h
        · rename_i h1; exact .inr (.inl ⟨h1, by simpa using h⟩)
        · simp only [decide_eq_true_eq] at h; exact .inr (.inr h)
    · cases h
theorem ev_op1 (g : ByteArray → Int) {f : Fm} (h : f.op = 1) : evF g f = true := by rw [evF_eq]; simp [h]
theorem ev_op2 (g : ByteArray → Int) {f : Fm} (h : f.op = 2) : evF g f = false := by rw [evF_eq]; simp [h]
theorem ev_known (g : ByteArray → Int) (b : Bool) : evF g (knownF b) = b := by
  cases b
  · exact ev_op2 g rfl
  · exact ev_op1 g rfl
theorem ev_not (g : ByteArray → Int) (k : Fm) : evF g (notF k) = !evF g k := by
  unfold notF
  split
  · rename_i h
    rw [ev_known]
    rcases h with h | h
    · rw [ev_op1 g h, h]; rfl
    · rw [ev_op2 g h, h]; rfl
  · rw [evF_eq]; simp
theorem ev_and (g : ByteArray → Int) (ks : List Fm) : evF g (joinF 5 ks) = ks.all (evF g) := by
  unfold joinF
  split
  · rename_i k hk
    have h1 := List.find?_some hk
    have h2 := List.mem_of_find?_eq_some hk
    have h3 : k.op = 2 := by simpa [zeroI] using h1
    rw [ev_op2 g h3]
    exact (List.all_eq_false.2 ⟨k, h2, by rw [ev_op2 g h3]; simp⟩).symm
  · have h1 : ∀ ks : List Fm, (ks.filter fun k => k.op != unitI 5).all (evF g) = ks.all (evF g) := by
      intro ks
      induction ks with
      | nil => rfl
      | cons k ks ih =>
        simp only [List.filter_cons, List.all_cons]
        split
        · rw [List.all_cons, ih]
        · rename_i h
          have : k.op = 1 := by simpa [unitI] using h
          rw [ih, ev_op1 g this, Bool.true_and]
    rw [← h1 ks]
    generalize ks.filter (fun k => k.op != unitI 5) = l
    match l with
    | [] => exact ev_op1 g rfl
    | [k] => simp [shutF]
    | a :: b :: l => change evF g (⟨5, ⟨#[]⟩, 0, 0, a :: b :: l⟩ : Fm) = _; rw [evF_eq]; simp
theorem ev_or (g : ByteArray → Int) (ks : List Fm) : evF g (joinF 6 ks) = ks.any (evF g) := by
  unfold joinF
  split
  · rename_i k hk
    have h1 := List.find?_some hk
    have h2 := List.mem_of_find?_eq_some hk
    have h3 : k.op = 1 := by simpa [zeroI] using h1
    rw [ev_op1 g h3]
    exact (List.any_eq_true.2 ⟨k, h2, ev_op1 g h3⟩).symm
  · have h1 : ∀ ks : List Fm, (ks.filter fun k => k.op != unitI 6).any (evF g) = ks.any (evF g) := by
      intro ks
      induction ks with
      | nil => rfl
      | cons k ks ih =>
        simp only [List.filter_cons, List.any_cons]
        split
        · rw [List.any_cons, ih]
        · rename_i h
          have : k.op = 2 := by simpa [unitI] using h
          rw [ih, ev_op2 g this, Bool.false_or]
    rw [← h1 ks]
    generalize ks.filter (fun k => k.op != unitI 6) = l
    match l with
    | [] => exact ev_op2 g rfl
    | [k] => simp [shutF]
    | a :: b :: l => change evF g (⟨6, ⟨#[]⟩, 0, 0, a :: b :: l⟩ : Fm) = _; rw [evF_eq]; simp
theorem given_ev (g : ByteArray → Int) (nm : ByteArray) (v : Int) (f : Fm) : FormF f → evF g (given nm v f) = evF (upF g nm v) f := by
  induction f using Fm.ind with
  | h f ih =>
    intro hf
    rw [given_eq]
    have hk : ∀ k ∈ f.kids, evF g (given nm v k) = evF (upF g nm v) k := fun k hk => ih k hk (hf.kid hk)
    rcases formed_cases hf.head with ⟨h3, _⟩ | ⟨h3, _, _, _, h⟩
    · rw [if_pos h3, evF_eq (upF g nm v), if_pos h3]
      by_cases hn : f.name = nm
      · rw [if_pos hn, ev_known]; simp [upF, hn]
      · rw [if_neg hn, evF_eq, if_pos h3]; simp [upF, hn]
    · rw [if_neg h3]
      rcases h with ⟨h1, h0⟩ | ⟨h4, h0⟩ | ⟨h5, h0⟩
      · have h4 : f.op ≠ 4 := by omega
        have h5 : ¬ (f.op = 5 ∨ f.op = 6) := by omega
        rw [if_neg h4, if_neg h5, evF_eq, evF_eq (upF g nm v)]
        have : f.op ≠ 5 := by omega
        have : f.op ≠ 6 := by omega
        simp [*]
      · rw [if_pos h4, ev_not, evF_eq (upF g nm v), if_neg h3, if_pos h4]
        obtain ⟨k, hkk⟩ := List.length_eq_one_iff.1 h0
        rw [hkk] at hk ⊢
        simp [hk k]
      · have h4 : f.op ≠ 4 := by omega
        rw [if_neg h4, if_pos h5, evF_eq (upF g nm v), if_neg h3, if_neg h4]
        have hmap : (f.kids.map (given nm v)).map (evF g) = f.kids.map (evF (upF g nm v)) := by
          rw [List.map_map]; exact List.map_congr_left hk
        rcases h5 with h5 | h5
        · rw [h5, ev_and, if_pos rfl, ← hmap]; simp [List.all_map]
        · rw [h5, ev_or, if_neg (by omega), if_pos rfl, ← hmap]; simp [List.any_map]
theorem cmp_same {s v cp n : Int} (h1 : s ≤ v) (h2 : n ≤ v → n ≤ s) (h3 : n + 1 ≤ v → n + 1 ≤ s) : cmpB s cp n = cmpB v cp n := by
  have a : (s < n) ↔ (v < n) := by omega
  have b : (s ≤ n) ↔ (v ≤ n) := by omega
  have c : (n < s) ↔ (n < v) := by omega
  have d : (n ≤ s) ↔ (n ≤ v) := by omega
  have e : (s = n) ↔ (v = n) := by omega
  have e2 : (s == n) = (v == n) := by rw [Bool.eq_iff_iff]; simp [e]
  have e3 : (s != n) = (v != n) := by unfold bne; rw [e2]
  unfold cmpB
  rw [e2, e3]
  simp only [a, b, c, d]
/-- Between two starts nothing changes. -/
theorem given_between (nm : ByteArray) {s v : Int} (h1 : s ≤ v) (f : Fm) : (∀ c ∈ cutsF nm f, c ≤ v → c ≤ s) → given nm s f = given nm v f := by
  induction f using Fm.ind with
  | h f ih =>
    intro hc
    rw [given_eq, given_eq]
    have hk : ∀ k ∈ f.kids, given nm s k = given nm v k := fun k hk => ih k hk (fun c hcc => hc c (by
      rw [cutsF_eq, List.mem_append]
      exact .inr (List.mem_flatten.2 ⟨_, List.mem_map.2 ⟨k, hk, rfl⟩, hcc⟩)))
    rw [List.map_congr_left hk]
    split
    · rename_i h3
      split
      · rename_i hn
        rw [cmp_same h1 (hc f.n (by rw [cutsF_eq, if_pos ⟨h3, hn⟩]; simp)) (hc (f.n + 1) (by rw [cutsF_eq, if_pos ⟨h3, hn⟩]; simp))]
      · rfl
    · rfl
/-- No part is always true or never true. -/
def Real (f : Fm) : Prop := AllF (fun x => x.op ≠ 1 ∧ x.op ≠ 2) f
def Nrm (f : Fm) : Prop := f.op = 1 ∨ f.op = 2 ∨ Real f
theorem known_op (b : Bool) : (knownF b).op = 1 ∨ (knownF b).op = 2 := by cases b <;> simp [knownF, knownI, bareF]
theorem join_cases (op : Int) (hop : op = 5 ∨ op = 6) (ks : List Fm) : (∃ b, joinF op ks = knownF b) ∨ joinF op ks ∈ ks ∨ ∃ l, joinF op ks = ⟨op, ⟨#[]⟩, 0, 0, l⟩ ∧ 2 ≤ l.length ∧ l.Sublist ks ∧ ∀ k ∈ l, k.op ≠ 1 ∧ k.op ≠ 2 := by
  unfold joinF
  split
  · rename_i k hk
    exact .inr (.inl (List.mem_of_find?_eq_some hk))
  · rename_i hn
    have hz : ∀ k ∈ ks, k.op ≠ zeroI op := fun k hk => by have := List.find?_eq_none.1 hn k hk; simpa using this
    have hs : (ks.filter fun k => k.op != unitI op).Sublist ks := List.filter_sublist
    have hl : ∀ k ∈ ks.filter (fun k => k.op != unitI op), k.op ≠ 1 ∧ k.op ≠ 2 := by
      intro k hk
      have h1 := List.mem_filter.1 hk
      have h2 := hz k h1.1
      have h3 : k.op ≠ unitI op := by simpa using h1.2
      rcases hop with rfl | rfl
      · simp [unitI, zeroI] at h2 h3; exact ⟨h3, h2⟩
      · simp [unitI, zeroI] at h2 h3; exact ⟨h2, h3⟩
    generalize ks.filter (fun k => k.op != unitI op) = l at hs hl
    match l with
    | [] =>
      rcases hop with rfl | rfl
      · exact .inl ⟨true, rfl⟩
      · exact .inl ⟨false, rfl⟩
    | [k] => exact .inr (.inl (hs.subset (by simp [shutF])))
    | a :: b :: l => exact .inr (.inr ⟨a :: b :: l, rfl, by simp, hs, hl⟩)
/-- What is left has a property that all nodes had, if the nodes that are made have it. -/
theorem given_all {p : Fm → Prop} (nm : ByteArray) (v : Int) (hb : ∀ b, p (knownF b)) (h4 : ∀ k, p ⟨4, ⟨#[]⟩, 0, 0, [k]⟩) (h5 : ∀ op ks, op = 5 ∨ op = 6 → 2 ≤ ks.length → p ⟨op, ⟨#[]⟩, 0, 0, ks⟩) (f : Fm) : FormF f → AllF p f → AllF p (given nm v f) := by
  have hbare : ∀ b, AllF p (knownF b) := fun b => by rw [AllF_eq]; exact ⟨hb b, fun k hk => by cases hk⟩
  induction f using Fm.ind with
  | h f ih =>
    intro hf ha
    rw [given_eq]
    rcases formed_cases hf.head with ⟨h3, _⟩ | ⟨h3, _, _, _, h⟩
    · rw [if_pos h3]
      split
      · exact hbare _
      · exact ha
    · rw [if_neg h3]
      rcases h with ⟨h1, h0⟩ | ⟨h4', h0⟩ | ⟨h5', h0⟩
      · rw [if_neg (by omega), if_neg (by omega)]; exact ha
      · rw [if_pos h4']
        obtain ⟨k, hkk⟩ := List.length_eq_one_iff.1 h0
        have hm : k ∈ f.kids := by rw [hkk]; simp
        rw [hkk]
        simp only [List.map_cons, List.map_nil, List.headD_cons]
        unfold notF
        split
        · exact hbare _
        · rw [AllF_eq]; exact ⟨h4 _, fun x hx => by simp at hx; subst hx; exact ih k hm (hf.kid hm) (ha.kid hm)⟩
      · rw [if_neg (by omega), if_pos h5']
        have hks : ∀ x ∈ f.kids.map (given nm v), AllF p x := by
          intro x hx
          obtain ⟨k, hk, rfl⟩ := List.mem_map.1 hx
          exact ih k hk (hf.kid hk) (ha.kid hk)
        unfold joinF
        split
        · rename_i k hk; exact hks k (List.mem_of_find?_eq_some hk)
        · have hl : ∀ x ∈ (f.kids.map (given nm v)).filter (fun k => k.op != unitI f.op), AllF p x := fun x hx => hks x (List.mem_filter.1 hx).1
          generalize (f.kids.map (given nm v)).filter (fun k => k.op != unitI f.op) = l at hl
          match l with
          | [] =>
            rw [shutF]
            have : bareF (unitI f.op) = knownF (f.op == 5) := by rcases h5' with h | h <;> rw [h] <;> rfl
            rw [this]; exact hbare _
          | [k] => rw [shutF]; exact hl k (by simp)
          | a :: b :: l =>
            change AllF p (⟨f.op, ⟨#[]⟩, 0, 0, a :: b :: l⟩ : Fm)
            rw [AllF_eq]; exact ⟨h5 _ _ h5' (by simp), hl⟩
theorem given_ok {fs : List Fc} (nm : ByteArray) (v : Int) {f : Fm} (h : OkF fs f) : OkF fs (given nm v f) := by
  refine given_all nm v (fun b => ?_) (fun k => ?_) (fun op ks ho hk => ?_) f (AllF.imp (fun x hx => ?_) f h) h
  · cases b <;> simp [lookI, formedB, knownF, knownI, bareF]
  · simp [lookI, formedB]
  · have : formedB op ⟨#[]⟩ 0 0 ks.length = true := by
      unfold formedB
      rcases ho with rfl | rfl <;> simp [hk]
    unfold lookI
    have h3 : op ≠ 3 := by rcases ho with rfl | rfl <;> decide
    simp [this, h3]
  · unfold lookI at hx
    split at hx
    · cases hx
    · rename_i h1; simpa using h1
theorem ok_form {fs : List Fc} {f : Fm} (h : OkF fs f) : FormF f := AllF.imp (fun x hx => by
  unfold lookI at hx
  split at hx
  · cases hx
  · rename_i h1; simpa using h1) f h
theorem given_nrm (nm : ByteArray) (v : Int) (f : Fm) : FormF f → Nrm (given nm v f) := by
  induction f using Fm.ind with
  | h f ih =>
    intro hf
    rw [given_eq]
    have hk0 : ∀ b, Nrm (knownF b) := fun b => (known_op b).elim .inl (fun h => .inr (.inl h))
    rcases formed_cases hf.head with ⟨h3, h0, _⟩ | ⟨h3, _, _, _, h⟩
    · rw [if_pos h3]
      split
      · exact hk0 _
      · refine .inr (.inr ?_)
        rw [Real, AllF_eq]
        exact ⟨by omega, fun k hk => by rw [List.eq_nil_of_length_eq_zero h0] at hk; cases hk⟩
    · rw [if_neg h3]
      rcases h with ⟨h1, h0⟩ | ⟨h4, h0⟩ | ⟨h5, h0⟩
      · rw [if_neg (by omega), if_neg (by omega)]; exact h1.elim .inl (fun h => .inr (.inl h))
      · rw [if_pos h4]
        obtain ⟨k, hkk⟩ := List.length_eq_one_iff.1 h0
        have hm : k ∈ f.kids := by rw [hkk]; simp
        have := ih k hm (hf.kid hm)
        rw [hkk]
        simp only [List.map_cons, List.map_nil, List.headD_cons]
        unfold notF
        split
        · exact hk0 _
        · rename_i hno
          refine .inr (.inr ?_)
          rw [Real, AllF_eq]
          refine ⟨by simp, fun x hx => ?_⟩
          simp at hx; subst hx
          rcases this with h | h | h
          · exact absurd (.inl h) hno
          · exact absurd (.inr h) hno
          · exact h
      · rw [if_neg (by omega), if_pos h5]
        have hks : ∀ x ∈ f.kids.map (given nm v), Nrm x := by
          intro x hx
          obtain ⟨k, hk, rfl⟩ := List.mem_map.1 hx
          exact ih k hk (hf.kid hk)
        rcases join_cases f.op h5 (f.kids.map (given nm v)) with h | h | ⟨l, h, h2, h3, h4⟩
        · obtain ⟨b, h⟩ := h; rw [h]; exact hk0 b
        · exact hks _ h
        · rw [h]
          refine .inr (.inr ?_)
          rw [Real, AllF_eq]
          refine ⟨by simp only; omega, fun x hx => ?_⟩
          rcases hks x (h3.subset hx) with h | h | h
          · exact absurd h (h4 x hx).1
          · exact absurd h (h4 x hx).2
          · exact h
theorem names_mem {s : ByteArray} (f : Fm) : s ∈ namesF f ↔ (f.op = 3 ∧ s = f.name) ∨ ∃ k ∈ f.kids, s ∈ namesF k := by
  rw [namesF_eq, List.mem_append, List.mem_flatten]
  constructor
  · rintro (h | ⟨l, hl, hs⟩)
    · split at h
      · rename_i h3; exact .inl ⟨h3, by simpa using h⟩
      · cases h
    · obtain ⟨k, hk, rfl⟩ := List.mem_map.1 hl
      exact .inr ⟨k, hk, hs⟩
  · rintro (⟨h3, rfl⟩ | ⟨k, hk, hs⟩)
    · exact .inl (by rw [if_pos h3]; simp)
    · exact .inr ⟨_, List.mem_map.2 ⟨k, hk, rfl⟩, hs⟩
theorem names_known {s : ByteArray} (b : Bool) : s ∉ namesF (knownF b) := by
  rw [names_mem]
  rintro (⟨h, _⟩ | ⟨k, hk, _⟩)
  · cases b <;> simp [knownF, knownI, bareF] at h
  · cases hk
/-- The name is gone; no other comes. -/
theorem given_names (nm : ByteArray) (v : Int) (f : Fm) : FormF f → ∀ s ∈ namesF (given nm v f), s ∈ namesF f ∧ s ≠ nm := by
  induction f using Fm.ind with
  | h f ih =>
    intro hf s hs
    rw [given_eq] at hs
    rcases formed_cases hf.head with ⟨h3, h0, _⟩ | ⟨h3, _, _, _, h⟩
    · rw [if_pos h3] at hs
      split at hs
      · exact absurd hs (names_known _)
      · rename_i hn
        refine ⟨hs, ?_⟩
        rcases (names_mem f).1 hs with ⟨_, rfl⟩ | ⟨k, hk, _⟩
        · exact hn
        · rw [List.eq_nil_of_length_eq_zero h0] at hk; cases hk
    · rw [if_neg h3] at hs
      have hkid : ∀ k ∈ f.kids, s ∈ namesF (given nm v k) → s ∈ namesF f ∧ s ≠ nm := fun k hk h => by
        obtain ⟨h1, h2⟩ := ih k hk (hf.kid hk) s h
        exact ⟨(names_mem f).2 (.inr ⟨k, hk, h1⟩), h2⟩
      rcases h with ⟨h1, h0⟩ | ⟨h4, h0⟩ | ⟨h5, h0⟩
      · rw [if_neg (by omega), if_neg (by omega)] at hs
        rcases (names_mem f).1 hs with ⟨h, _⟩ | ⟨k, hk, _⟩
        · exact absurd h h3
        · rw [List.eq_nil_of_length_eq_zero h0] at hk; cases hk
      · rw [if_pos h4] at hs
        obtain ⟨k, hkk⟩ := List.length_eq_one_iff.1 h0
        have hm : k ∈ f.kids := by rw [hkk]; simp
        rw [hkk] at hs
        simp only [List.map_cons, List.map_nil, List.headD_cons] at hs
        unfold notF at hs
        split at hs
        · exact absurd hs (names_known _)
        · rcases (names_mem _).1 hs with ⟨h, _⟩ | ⟨x, hx, hs⟩
          · simp at h
          · simp at hx; subst hx; exact hkid k hm hs
      · rw [if_neg (by omega), if_pos h5] at hs
        rcases join_cases f.op h5 (f.kids.map (given nm v)) with h | h | ⟨l, h, h2, h3', h4⟩
        · obtain ⟨b, h⟩ := h; rw [h] at hs; exact absurd hs (names_known _)
        · obtain ⟨k, hk, e⟩ := List.mem_map.1 h
          rw [← e] at hs
          exact hkid k hk hs
        · rw [h] at hs
          rcases (names_mem _).1 hs with ⟨h, _⟩ | ⟨x, hx, hs⟩
          · simp only at h; omega
          · obtain ⟨k, hk, rfl⟩ := List.mem_map.1 (h3'.subset hx)
            exact hkid k hk hs
theorem real_names (f : Fm) : FormF f → Real f → ∃ s, s ∈ namesF f := by
  induction f using Fm.ind with
  | h f ih =>
    intro hf hr
    rcases formed_cases hf.head with ⟨h3, h0, _⟩ | ⟨h3, _, _, _, h⟩
    · exact ⟨f.name, (names_mem f).2 (.inl ⟨h3, rfl⟩)⟩
    · have hne : f.kids ≠ [] := by
        rcases h with ⟨h1, h0⟩ | ⟨h4, h0⟩ | ⟨h5, h0⟩
        · have := hr.head; omega
        · intro e; rw [e] at h0; simp at h0
        · intro e; rw [e] at h0; simp at h0
      obtain ⟨k, l, e⟩ := List.exists_cons_of_ne_nil hne
      have hm : k ∈ f.kids := by rw [e]; simp
      obtain ⟨s, hs⟩ := ih k hm (hf.kid hm) (hr.kid hm)
      exact ⟨s, (names_mem f).2 (.inr ⟨k, hm, hs⟩)⟩
/-- Two valuations that agree on the names agree on the formula. -/
theorem ev_names {g g' : ByteArray → Int} (f : Fm) : (∀ s ∈ namesF f, g s = g' s) → evF g f = evF g' f := by
  induction f using Fm.ind with
  | h f ih =>
    intro h
    have hk : ∀ k ∈ f.kids, evF g k = evF g' k := fun k hk => ih k hk (fun s hs => h s ((names_mem f).2 (.inr ⟨k, hk, hs⟩)))
    rw [evF_eq, evF_eq g', List.map_congr_left hk]
    by_cases h3 : f.op = 3
    · rw [if_pos h3, if_pos h3, h f.name ((names_mem f).2 (.inl ⟨h3, rfl⟩))]
    · rw [if_neg h3, if_neg h3]
end Go.Proofs.YtfajbcjcigajfaaGreatDoor
