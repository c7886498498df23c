/- Part of the proof of a law of customhouselaw26: the texts P8 P9. -/
import Derived.Test.YtfajbcjcigajfaaGreatDoorMG1G2
import Derived.Test.YtfajbcjcigajfaaGreatDoorMR1
import Derived.Test.YtfajbcjcigajfaaGreatDoorMP6P7
/- Plain law, eighth part: the keys of what is done tell facts and formulas apart; starts are in order. -/
namespace Go.Proofs.YtfajbcjcigajfaaGreatDoor

theorem itoa_op {op : Int} (h1 : 1 ≤ op) (h2 : op ≤ 6) : ∃ b : UInt8, Lib.itoa op = [b] ∧ 48 ≤ b.toNat ∧ b.toNat ≤ 57 := by
  have h : ¬ op < 0 := by omega
  refine ⟨UInt8.ofNat (48 + op.toNat), ?_, ?_, ?_⟩
  · unfold Lib.itoa
    rw [if_neg h, Lib.decDigits, dif_pos (by omega)]
  · rw [digit_val (by omega)]; omega
  · rw [digit_val (by omega)]; omega
theorem name_bytes {s : ByteArray} (h : nameB s = true) : ∀ b ∈ s.data.toList, b ≠ 44 := by
  intro b hb
  obtain ⟨j, hj⟩ := List.mem_iff_getElem?.1 hb
  obtain ⟨hlt, hj⟩ := List.getElem?_eq_some_iff.1 hj
  have hsz : j < s.size := by rw [data_len] at hlt; exact hlt
  unfold nameB at h
  simp only [Bool.and_eq_true] at h
  have h1 := List.all_eq_true.1 h.1 j (List.mem_range.2 hsz)
  rw [byteN_at hsz] at h1
  have e : s[j]'hsz = b := by rw [← hj]; rfl
  rw [e] at h1
  rintro rfl
  revert h1
  unfold okcB letterB tailB
  simp
theorem name_head {s : ByteArray} (h : nameB s = true) : ∃ b r, s.data.toList = b :: r ∧ (b.toNat < 48 ∨ 57 < b.toNat) := by
  have h' := h
  unfold nameB at h'
  simp only [Bool.and_eq_true, decide_eq_true_eq] at h'
  have h1 := List.all_eq_true.1 h'.1 0 (List.mem_range.2 h'.2.1)
  rw [byteN_at h'.2.1] at h1
  have hl : 0 < s.data.toList.length := by rw [data_len]; exact h'.2.1
  cases hd : s.data.toList with
  | nil => rw [hd] at hl; simp at hl
  | cons b r =>
    refine ⟨b, r, rfl, ?_⟩
    have e : s[0]'(h'.2.1) = b := by
      have : s.data.toList[0] = b := by simp [hd]
      rw [← this]; rfl
    rw [e] at h1
    unfold okcB letterB tailB at h1
    simp at h1
    omega
theorem bytes_eq {a b : ByteArray} (h : a.data.toList = b.data.toList) : a = b := ByteArray.ext (Array.ext' h)
/-- A run of digits, and what is none behind it. -/
theorem digits_split : ∀ {a b c d : List UInt8}, (∀ x ∈ a, 48 ≤ x.toNat ∧ x.toNat ≤ 57) → (∀ x ∈ b, 48 ≤ x.toNat ∧ x.toNat ≤ 57) → (∀ x, c.head? = some x → x.toNat < 48 ∨ 57 < x.toNat) → (∀ x, d.head? = some x → x.toNat < 48 ∨ 57 < x.toNat) → a ++ c = b ++ d → a = b ∧ c = d
  | [], [], c, d, _, _, _, _, h => ⟨rfl, by simpa using h⟩
  | [], y :: b, c, d, _, hb, hc, _, h => by
    simp only [List.nil_append] at h
    have h1 := hc y (by rw [h]; rfl)
    have h2 := hb y (by simp)
    omega
  | x :: a, [], c, d, ha, _, _, hd, h => by
    simp only [List.nil_append] at h
    have h1 := hd x (by rw [← h]; rfl)
    have h2 := ha x (by simp)
    omega
  | x :: a, y :: b, c, d, ha, hb, hc, hd, h => by
    simp only [List.cons_append, List.cons.injEq] at h
    obtain ⟨h1, h2⟩ := digits_split (fun z hz => ha z (by simp [hz])) (fun z hz => hb z (by simp [hz])) hc hd h.2
    exact ⟨by rw [h.1, h1], h2⟩
theorem form_op {f : Fm} (h : FormF f) : 1 ≤ f.op ∧ f.op ≤ 6 := by
  rcases formed_cases h.head with ⟨h3, _⟩ | ⟨_, _, _, _, h⟩
  · omega
  · omega
theorem form_name {f : Fm} (h : FormF f) : (∀ b ∈ f.name.data.toList, b ≠ 44) ∧ ∀ r x, (f.name.data.toList ++ 44 :: r).head? = some x → x.toNat < 48 ∨ 57 < x.toNat := by
  rcases formed_cases h.head with ⟨_, _, _, _, hn⟩ | ⟨_, hn, _⟩
  · refine ⟨name_bytes hn, fun r x hx => ?_⟩
    obtain ⟨b, q, e, hb⟩ := name_head hn
    rw [e] at hx
    simp at hx
    subst hx; exact hb
  · rw [hn]
    refine ⟨fun b hb => by simp at hb, fun r x hx => ?_⟩
    simp at hx
    subst hx; decide
/-- What stands behind the operation's digit. -/
def restS (f : Fm) (r : List UInt8) : List UInt8 := f.name.data.toList ++ 44 :: (Lib.itoa f.cmp ++ 44 :: (Lib.itoa f.n ++ 40 :: ((f.kids.map spellS).flatten ++ 41 :: r)))
theorem spell_rest (f : Fm) (r : List UInt8) : spellS f ++ r = Lib.itoa f.op ++ restS f r := by
  rw [spellS_eq]; unfold restS; simp [List.append_assoc]
theorem spell_pre : ∀ (f : Fm), FormF f → ∀ (f' : Fm) (r r' : List UInt8), FormF f' → spellS f ++ r = spellS f' ++ r' → f = f' ∧ r = r' := by
  intro f
  induction f using Fm.ind with
  | h f ih =>
    intro hf f' r r' hf' h
    rw [spell_rest, spell_rest] at h
    obtain ⟨b, eb, b1, b2⟩ := itoa_op (form_op hf).1 (form_op hf).2
    obtain ⟨b', eb', b1', b2'⟩ := itoa_op (form_op hf').1 (form_op hf').2
    have hop : f.op = f'.op := by
      rw [eb, eb'] at h
      simp only [List.cons_append, List.cons.injEq] at h
      exact itoa_inj (by rw [eb, eb', h.1])
    rw [hop] at h
    have h := List.append_cancel_left h
    unfold restS at h
    obtain ⟨h1, h⟩ := split_at (form_name hf).1 (form_name hf').1 h
    obtain ⟨h2, h⟩ := split_at (itoa_sep _ (by decide)) (itoa_sep _ (by decide)) h
    obtain ⟨h3, h⟩ := split_at (itoa_sep _ (by decide)) (itoa_sep _ (by decide)) h
    have key : ∀ (ks ks' : List Fm), (∀ k ∈ ks, k ∈ f.kids) → (∀ k ∈ ks', FormF k) → (ks.map spellS).flatten ++ 41 :: r = (ks'.map spellS).flatten ++ 41 :: r' → ks = ks' ∧ r = r' := by
      have hd : ∀ (k : Fm) (q : List UInt8) (z : List UInt8), FormF k → 41 :: z = spellS k ++ q → False := by
        intro k q z hk e
        obtain ⟨b, eb, b1, b2⟩ := itoa_op (form_op hk).1 (form_op hk).2
        rw [spell_rest, eb] at e
        simp only [List.cons_append, List.cons.injEq] at e
        rw [← e.1] at b1
        exact absurd b1 (by decide)
      intro ks
      induction ks with
      | nil =>
        intro ks' _ h2 e
        cases ks' with
        | nil => simpa using e
        | cons k' ks' =>
          simp only [List.map_cons, List.flatten_cons, List.map_nil, List.flatten_nil, List.nil_append, List.append_assoc] at e
          exact (hd k' _ _ (h2 k' (by simp)) e).elim
      | cons k ks ihk =>
        intro ks' h1 h2 e
        cases ks' with
        | nil =>
          simp only [List.map_cons, List.flatten_cons, List.map_nil, List.flatten_nil, List.nil_append, List.append_assoc] at e
          exact (hd k _ _ (hf.kid (h1 k (by simp))) e.symm).elim
        | cons k' ks' =>
          simp only [List.map_cons, List.flatten_cons, List.append_assoc] at e
          obtain ⟨e1, e2⟩ := ih k (h1 k (by simp)) (hf.kid (h1 k (by simp))) k' _ _ (h2 k' (by simp)) e
          obtain ⟨e3, e4⟩ := ihk ks' (fun x hx => h1 x (by simp [hx])) (fun x hx => h2 x (by simp [hx])) e2
          exact ⟨by rw [e1, e3], e4⟩
    obtain ⟨h4, h5⟩ := key f.kids f'.kids (fun k hk => hk) (fun k hk => hf'.kid hk) h
    obtain ⟨o, nm, cp, n, ks⟩ := f
    obtain ⟨o', nm', cp', n', ks'⟩ := f'
    simp only at hop h1 h2 h3 h4
    rw [hop, bytes_eq h1, itoa_inj h2, itoa_inj h3, h4]
    exact ⟨rfl, h5⟩
theorem itoa_nat_digits {i : Int} (h : 0 ≤ i) : ∀ x ∈ Lib.itoa i, 48 ≤ x.toNat ∧ x.toNat ≤ 57 := by
  intro x hx
  unfold Lib.itoa at hx
  rw [if_neg (by omega)] at hx
  exact dec_digit _ _ (Nat.le_refl _) x hx
/-- The key tells the fact and the formula. -/
theorem key_inj {i i' : Int} {f f' : Fm} (h0 : 0 ≤ i) (h0' : 0 ≤ i') (hf : FormF f) (hf' : FormF f') (h : keyS i f = keyS i' f') : i = i' ∧ f = f' := by
  have h := bytesOf_inj h
  have e := spell_rest f []
  have e' := spell_rest f' []
  obtain ⟨b, eb, b1, b2⟩ := itoa_op (form_op hf).1 (form_op hf).2
  obtain ⟨b', eb', b1', b2'⟩ := itoa_op (form_op hf').1 (form_op hf').2
  rw [List.append_nil] at e e'
  rw [e, e', ← List.append_assoc, ← List.append_assoc] at h
  obtain ⟨h1, h2⟩ := digits_split (fun x hx => by
    rcases List.mem_append.1 hx with hx | hx
    · exact itoa_nat_digits h0 x hx
    · rw [eb] at hx; simp at hx; subst hx; exact ⟨b1, b2⟩) (fun x hx => by
    rcases List.mem_append.1 hx with hx | hx
    · exact itoa_nat_digits h0' x hx
    · rw [eb'] at hx; simp at hx; subst hx; exact ⟨b1', b2'⟩) (fun x hx => (form_name hf).2 _ x hx) (fun x hx => (form_name hf').2 _ x hx) h
  rw [eb, eb'] at h1
  have h3 := List.append_inj' h1 rfl
  refine ⟨itoa_inj h3.1, (spell_pre f hf f' [] [] hf' ?_).1⟩
  rw [List.append_nil, List.append_nil, e, e', eb, eb', h3.2, show restS f [] = restS f' [] from h2]

/-! ### starts -/
theorem upto_asc {l : List Int} (hs : l.Pairwise (· ≤ ·)) : ∀ (m : Nat), m ≤ l.length → (∀ x, x ∈ Lib.compactUpTo l.toArray m ↔ x ∈ l.take m) ∧ (Lib.compactUpTo l.toArray m).Pairwise (· < ·)
  | 0, _ => by simp [Lib.compactUpTo]
  | m + 1, hm => by
    obtain ⟨h1, h2⟩ := upto_asc hs m (by omega)
    have hlt : m < l.length := hm
    have hg : l.toArray[m]! = l[m] := by simp [hlt]
    have ht : l.take (m + 1) = l.take m ++ [l[m]] := List.take_succ_eq_append_getElem hlt
    have hp := List.pairwise_iff_getElem.1 hs
    rw [Lib.compactUpTo_succ, ht, hg]
    by_cases hk : Lib.keeps l.toArray m = true
    · rw [if_pos hk]
      refine ⟨fun x => by rw [List.mem_append, List.mem_append, h1], ?_⟩
      rw [List.pairwise_append]
      refine ⟨h2, by simp, fun a ha b hb => ?_⟩
      rw [List.mem_singleton.1 hb]
      rw [h1] at ha
      obtain ⟨j, hj, e⟩ := List.mem_take_iff_getElem.1 ha
      have hjm : j < m := by omega
      have hle : a ≤ l[m - 1] := by
        rw [← e]
        by_cases e2 : j = m - 1
        · subst e2; exact Int.le_refl _
        · exact hp j (m - 1) (by omega) (by omega) (by omega)
      have hle2 := hp (m - 1) m (by omega) hlt (by omega)
      have hne : l[m] ≠ l[m - 1] := by
        unfold Lib.keeps at hk
        rw [hg] at hk
        have : l.toArray[m - 1]! = l[m - 1] := by simp [show m - 1 < l.length by omega]
        rw [this] at hk
        rcases of_decide_eq_true hk with h | h
        · omega
        · exact h
      omega
    · rw [if_neg hk, List.append_nil]
      refine ⟨fun x => ?_, h2⟩
      rw [List.mem_append, h1]
      refine ⟨.inl, fun h => h.elim id fun h => ?_⟩
      rw [List.mem_singleton.1 h]
      unfold Lib.keeps at hk
      have hk := fun h => hk (decide_eq_true h)
      have h0 : m ≠ 0 := fun e => hk (.inl e)
      have he : l[m] = l[m - 1] := by
        have : l.toArray[m - 1]! = l[m - 1] := by simp [show m - 1 < l.length by omega]
        rw [← hg, ← this]
        exact Classical.byContradiction fun h => hk (.inr h)
      rw [he]
      exact List.mem_take_iff_getElem.2 ⟨m - 1, by omega, rfl⟩
theorem compact_asc {l : List Int} (hs : l.Pairwise (· ≤ ·)) : (∀ x, x ∈ Lib.compact l ↔ x ∈ l) ∧ (Lib.compact l).Pairwise (· < ·) := by
  have := upto_asc hs l.length (Nat.le_refl _)
  rwa [List.take_length] at this
theorem sort_le (l : List Int) : (l.mergeSort fun a b => decide (a ≤ b)).Pairwise (· ≤ ·) := by
  have h := List.pairwise_mergeSort (le := fun a b : Int => decide (a ≤ b)) (fun a b c h1 h2 => by simp at *; omega) (fun a b => by simp; omega) l
  exact h.imp (fun h => by simpa using h)
theorem asc_of {hi : Int} : ∀ (l : List Int) (lo : Int), (lo :: l).Pairwise (· < ·) → (∀ x ∈ l, x ≤ hi) → Asc hi lo l
  | [], _, _, _ => trivial
  | x :: l, lo, h, hh => ⟨(List.pairwise_cons.1 h).1 x (by simp), hh x (by simp), asc_of l x (List.pairwise_cons.1 h).2 (fun y hy => hh y (by simp [hy]))⟩
/-- The starts: the least value first, then in order; all cuts in the fact's range. -/
theorem starts_asc {x : Fc} (f : Fm) (h : x.lo ≤ x.hi) : ∃ ss, startsL x f = x.lo :: ss ∧ Asc x.hi x.lo ss ∧ ∀ c ∈ cutsF x.name f, x.lo ≤ c → c ≤ x.hi → c ∈ x.lo :: ss := by
  have hs := (sort_le (x.lo :: cutsF x.name f)).filter (fun n => !outB x n)
  obtain ⟨h1, h2⟩ := compact_asc hs
  change (∀ y, y ∈ startsL x f ↔ _) at h1
  change (startsL x f).Pairwise (· < ·) at h2
  have hm : ∀ y, y ∈ startsL x f ↔ (y = x.lo ∨ y ∈ cutsF x.name f) ∧ x.lo ≤ y ∧ y ≤ x.hi := by
    intro y
    rw [h1, List.mem_filter, List.mem_mergeSort, List.mem_cons]
    unfold outB
    simp
  have hlo : x.lo ∈ startsL x f := (hm _).2 ⟨.inl rfl, Int.le_refl _, h⟩
  cases hst : startsL x f with
  | nil => rw [hst] at hlo; cases hlo
  | cons s0 ss =>
    rw [hst] at hm h2 hlo
    have h0 := ((hm s0).1 (by simp)).2.1
    have e : s0 = x.lo := by
      rcases List.mem_cons.1 hlo with e | e
      · exact e.symm
      · have := (List.pairwise_cons.1 h2).1 _ e; omega
    subst e
    refine ⟨ss, rfl, asc_of ss _ h2 (fun y hy => ((hm y).1 (by simp [hy])).2.2), fun c hc h3 h4 => (hm c).2 ⟨.inr hc, h3, h4⟩⟩
/-- The kid for a value is the one of the last start at or below it. -/
theorem kid_at {hi : Int} : ∀ (ss : List Int) (s0 v : Int) (k0 : Tr) (ks : List Tr), Asc hi s0 ss → ks.length = ss.length → s0 ≤ v →
    ∃ (j : Nat) (s : Int), (s0 :: ss)[j]? = some s ∧ (k0 :: ks)[j]? = some (kidAt ss (k0 :: ks) v) ∧ s ≤ v ∧ ∀ s' ∈ s0 :: ss, s' ≤ v → s' ≤ s
  | [], s0, v, k0, ks, _, _, h => ⟨0, s0, rfl, by rw [kid_nil]; rfl, h, by simp⟩
  | s :: ss, s0, v, k0, [], _, hl, _ => by simp at hl
  | s :: ss, s0, v, k0, k :: ks, h, hl, hv => by
    by_cases hs : v < s
    · refine ⟨0, s0, rfl, by rw [kid_lt hs]; rfl, hv, fun s' hs' hle => ?_⟩
      rcases List.mem_cons.1 hs' with rfl | hs'
      · omega
      · exfalso
        rcases List.mem_cons.1 hs' with rfl | hs'
        · omega
        · obtain ⟨j, hj, rfl⟩ := List.mem_iff_getElem.1 hs'
          have := (asc_le h.2.1 h.2.2 j hj).1
          omega
    · obtain ⟨j, t, e1, e2, e3, e4⟩ := kid_at ss s v k ks h.2.2 (by simpa using hl) (by omega)
      refine ⟨j + 1, t, by simpa using e1, by rw [kid_ge (by omega)]; simpa using e2, e3, fun s' hs' hle => ?_⟩
      rcases List.mem_cons.1 hs' with rfl | hs'
      · have := e4 s (by simp) (by omega); have := h.1; omega
      · exact e4 s' hs' hle
end Go.Proofs.YtfajbcjcigajfaaGreatDoor
/- Plain law, ninth part: grow's node is canonical, and answers as the formula. -/
namespace Go.Proofs.YtfajbcjcigajfaaGreatDoor

theorem validF_spec : ∀ (fs : List Fc) (seen : List ByteArray), validF seen fs = true → (∀ x ∈ fs, nameB x.name = true ∧ x.lo ≤ x.hi) ∧ (fs.map (·.name)).Nodup ∧ ∀ x ∈ fs, x.name ∉ seen
  | [], _, _ => by simp
  | x :: fs, seen, h => by
    simp only [validF, Bool.and_eq_true, Bool.not_eq_true', decide_eq_false_iff_not] at h
    obtain ⟨⟨⟨h1, h2⟩, h3⟩, h4⟩ := h
    obtain ⟨a, b, c⟩ := validF_spec fs _ h4
    have hlh : x.lo ≤ x.hi := by
      unfold kindOk at h1
      simp only [decide_eq_true_eq] at h1
      omega
    refine ⟨fun y hy => ?_, ?_, fun y hy => ?_⟩
    · rcases List.mem_cons.1 hy with rfl | hy
      · exact ⟨h2, hlh⟩
      · exact a y hy
    · rw [List.map_cons, List.nodup_cons]
      refine ⟨fun hm => ?_, b⟩
      obtain ⟨y, hy, e⟩ := List.mem_map.1 hm
      exact c y hy (by rw [e]; simp)
    · rcases List.mem_cons.1 hy with rfl | hy
      · exact h3
      · exact fun hm => c y hy (by simp [hm])
structure DomOk (fs : List Fc) : Prop where
  name : ∀ x ∈ fs, nameB x.name = true
  lohi : ∀ x ∈ fs, x.lo ≤ x.hi
  nodup : (fs.map (·.name)).Nodup
  len : fs.length ≤ 60
theorem dom_ok {fs : List Fc} (h : validD fs = true) : DomOk fs := by
  unfold validD at h
  simp only [Bool.and_eq_true, decide_eq_true_eq] at h
  obtain ⟨a, b, _⟩ := validF_spec fs [] h.1
  exact ⟨fun x hx => (a x hx).1, fun x hx => (a x hx).2, b, h.2⟩
theorem sameName_iff {nm : ByteArray} {x : Fc} : sameName nm x = true ↔ x.name = nm := by unfold sameName; rw [str_eq]; simp
theorem dom_idx {fs : List Fc} (h : DomOk fs) {i : Nat} {x : Fc} (hi : fs[i]? = some x) : idxI (sameName x.name) fs = i := by
  refine idxI_some hi (sameName_iff.2 rfl) (fun y hy => ?_)
  rw [Bool.eq_false_iff]
  intro e
  have e := sameName_iff.1 e
  obtain ⟨j, hj, ey⟩ := List.mem_take_iff_getElem.1 hy
  obtain ⟨hlt, ex⟩ := List.getElem?_eq_some_iff.1 hi
  have := nodup_inj h.nodup (i := j) (j := i) (by simp; omega) (by simpa using hlt) (by simp [ex, ey, e])
  omega
theorem lo_at {fs : List Fc} {i : Nat} {x : Fc} (hi : fs[i]? = some x) : loF fs i = x.lo ∧ hiF fs i = x.hi := by
  unfold loF hiF
  simp [hi]
theorem dom_lohi {fs : List Fc} (h : DomOk fs) : LoHi fs := by
  intro i h0 hi
  have hlt : i.toNat < fs.length := by omega
  have := lo_at (List.getElem?_eq_getElem hlt)
  have e : ((i.toNat : Nat) : Int) = i := by omega
  rw [e] at this
  rw [this.1, this.2]
  exact h.lohi _ (List.getElem_mem hlt)
/-- The value of a name, where the fact i has the value g i. -/
def rho (fs : List Fc) (g : Int → Int) (nm : ByteArray) : Int := g (idxI (sameName nm) fs).toNat
theorem rho_case (fs : List Fc) (c : List Int) : rho fs (fun i => c.getD i.toNat 0) = valF fs c := by
  funext nm
  show c.getD (((idxI (sameName nm) fs).toNat : Nat) : Int).toNat 0 = _
  rw [Int.toNat_natCast]; rfl
/-- What is done is rightly done. -/
def Done (fs : List Fc) (s : St) (T : Int → Tr) : Prop := ∀ p ∈ s.done, ∃ (i : Int) (f : Fm), p.1 = keyS i f ∧ 0 ≤ i ∧ FormF f ∧ InR s.l p.2 ∧ Can fs i (T p.2) ∧ ∀ g, Fit fs g → evT g (T p.2) = evF (rho fs g) f
theorem Done.ext {fs : List Fc} {s s' : St} {T T' : Int → Tr} (h : Done fs s T) (hd : s'.done = s.done) (he : Ext s.l T s'.l T') : Done fs s' T' := by
  intro p hp
  rw [hd] at hp
  obtain ⟨i, f, h1, h2, h3, h4, h5, h6⟩ := h p hp
  obtain ⟨e1, e2⟩ := he.2 _ h4
  exact ⟨i, f, h1, h2, h3, e2, by rw [e1]; exact h5, by rw [e1]; exact h6⟩
/-- What a step is to give. -/
structure Good (fs : List Fc) (i : Int) (f : Fm) (s : St) (T : Int → Tr) (r : Int × St) (T' : Int → Tr) : Prop where
  tb : Tb r.2.l T'
  ext : Ext s.l T r.2.l T'
  done : Done fs r.2 T'
  rng : InR r.2.l r.1
  can : Can fs i (T' r.1)
  ev : ∀ g, Fit fs g → evT g (T' r.1) = evF (rho fs g) f
theorem leaf_good {fs : List Fc} {i : Int} {f : Fm} {s : St} {T : Int → Tr} (h : Tb s.l T) (hd : Done fs s T) (b : Bool) (he : ∀ g, evF g f = b) : ∃ T', Good fs i f s T (s.leaf b) T' := by
  obtain ⟨T', t1, t2, t3, t4⟩ := tb_node h (x := leafN b) ⟨fun c hc => (by cases hc), fun _ => ⟨rfl, rfl⟩, fun e => absurd rfl e⟩
  have e : T' (posN s.l (leafN b) : Nat) = .leaf b := by rw [t3, unN_nil T rfl]; rfl
  exact ⟨T', t1, t2, hd.ext rfl t2, t4, by show Can fs i (T' (posN s.l (leafN b) : Nat)); rw [e]; exact .leaf _ _, fun g _ => by show evT g (T' (posN s.l (leafN b) : Nat)) = _; rw [e, he, evT]⟩
theorem mput_mem {m : List (ByteArray × Int)} {a : ByteArray} {v : Int} {p : ByteArray × Int} (h : p ∈ mput m a v) : p = (a, v) ∨ p ∈ m := by
  unfold mput at h
  split at h
  · obtain ⟨q, hq, e⟩ := List.mem_map.1 h
    split at e
    · exact .inl e.symm
    · subst e; exact .inr hq
  · rcases List.mem_append.1 h with h | h
    · exact .inr h
    · exact .inl (List.mem_singleton.1 h)
theorem ev_op {f : Fm} (h : f.op = 1 ∨ f.op = 2) (g : ByteArray → Int) : evF g f = (f.op == 1) := by
  rcases h with h | h
  · rw [ev_op1 g h, h]; rfl
  · rw [ev_op2 g h, h]; rfl
/-- Full stays full. -/
theorem full_stays : ∀ (rest : List Fc) (i : Int) (f : Fm) (s : St), s.full = true → (growP rest i f s).2.full = true
  | [], i, f, s, h => by
    unfold growP
    split
    · exact h
    · show (s.full || _) = true; rw [h]; rfl
  | x :: rest, i, f, s, h => by
    unfold growP
    split
    · exact h
    · rw [if_pos (by rw [h]; rfl)]; rfl
theorem kids_full (rest : List Fc) (i : Int) (x : Fc) (f : Fm) : ∀ (vs : List Int) (s : St), s.full = true → (growKids rest i x f vs s).2.full = true := by
  have key : ∀ (vs : List Int) (a : List Int × St), a.2.full = true → (vs.foldl (fun (a : List Int × St) v => ((a.1 ++ [(growP rest (i + 1) (given x.name v f) a.2).1]), (growP rest (i + 1) (given x.name v f) a.2).2)) a).2.full = true := by
    intro vs
    induction vs with
    | nil => intro a h; exact h
    | cons v vs ih => intro a h; rw [List.foldl_cons]; exact ih _ (full_stays _ _ _ _ h)
  exact fun vs s h => key vs ([], s) h
theorem growP_cons (x : Fc) (rest : List Fc) (i : Int) (f : Fm) (s : St) (h1 : ¬ (f.op = 1 ∨ f.op = 2)) (h2 : ¬ (s.full || decide (4000 < s.l.length)) = true) :
    growP (x :: rest) i f s = match mget s.done (keyS i f) with
      | some k => (k, { s with full := false })
      | none => (growKids rest i x f (startsL x f) { s with full := false }).2.inner (keyS i f) i (startsL x f) (growKids rest i x f (startsL x f) { s with full := false }).1 := by
  conv => lhs; unfold growP
  rw [if_neg h1, if_neg h2]
  rfl
theorem given_form (nm : ByteArray) (v : Int) {f : Fm} (h : FormF f) : FormF (given nm v f) := by
  refine given_all nm v (fun b => ?_) (fun k => ?_) (fun op ks ho hk => ?_) f h h
  · cases b <;> simp [formedB, knownF, knownI, bareF]
  · simp [formedB]
  · unfold formedB
    rcases ho with rfl | rfl <;> simp [hk]
theorem upF_rho {fs : List Fc} (h : DomOk fs) {i : Nat} {x : Fc} (hi : fs[i]? = some x) (g : Int → Int) : upF (rho fs g) x.name (g i) = rho fs g := by
  funext nm
  unfold upF
  split
  · rename_i e; subst e; unfold rho; rw [dom_idx h hi]; simp
  · rfl
theorem grow_law {fs : List Fc} (hD : DomOk fs) : ∀ (rest : List Fc) (i : Nat) (f : Fm) (s : St) (T : Int → Tr), fs.drop i = rest → i ≤ fs.length → FormF f → Nrm f → (∀ nm ∈ namesF f, ∃ x ∈ rest, x.name = nm) → Tb s.l T → Done fs s T →
    (growP rest i f s).2.full = false → ∃ T', Good fs i f s T (growP rest i f s) T' := by
  intro rest
  induction rest with
  | nil =>
    intro i f s T hr hi hf hn hnm hT hd hfull
    have hop : f.op = 1 ∨ f.op = 2 := by
      rcases hn with h | h | h
      · exact .inl h
      · exact .inr h
      · obtain ⟨nm, hnm2⟩ := real_names f hf h
        obtain ⟨x, hx, _⟩ := hnm nm hnm2
        cases hx
    unfold growP
    rw [if_pos hop]
    exact leaf_good hT hd _ (ev_op hop)
  | cons x rest ih =>
    intro i f s T hr hi hf hn hnm hT hd hfull
    by_cases hop : f.op = 1 ∨ f.op = 2
    · unfold growP
      rw [if_pos hop]
      exact leaf_good hT hd _ (ev_op hop)
    · have hilt : i < fs.length := by
        apply Classical.byContradiction
        intro h
        rw [List.drop_of_length_le (by omega)] at hr
        cases hr
      have hxi : fs[i]? = some x := by
        have := congrArg List.head? hr
        rw [List.head?_drop] at this
        exact this
      have hrest : fs.drop (i + 1) = rest := by
        have := congrArg List.tail hr
        rw [List.tail_drop] at this
        exact this
      have hxm : x ∈ fs := List.mem_of_getElem? hxi
      by_cases hfu : (s.full || decide (4000 < s.l.length)) = true
      · exfalso
        unfold growP at hfull
        rw [if_neg hop, if_pos hfu] at hfull
        cases hfull
      · rw [growP_cons x rest i f s hop hfu] at hfull ⊢
        have hs0 : s.full = false := by
          cases h : s.full with
          | false => rfl
          | true => rw [h] at hfu; exact absurd rfl hfu
        have hse : ({ s with full := false } : St) = s := by cases s; simp at hs0; simp [hs0]
        rw [hse] at hfull ⊢
        cases hmg : mget s.done (keyS i f) with
        | some k =>
          simp only at hfull ⊢
          unfold mget at hmg
          obtain ⟨p, hp, rfl⟩ := Option.map_eq_some_iff.1 hmg
          have hpk := List.find?_some hp
          simp only [decide_eq_true_eq] at hpk
          obtain ⟨j, f', a1, a2, a3, a4, a5, a6⟩ := hd p (List.mem_of_find?_eq_some hp)
          rw [hpk] at a1
          obtain ⟨e1, e2⟩ := key_inj (by omega) a2 hf a3 a1
          subst e1 e2
          exact ⟨T, hT, Ext.refl _ _, hd, a4, a5, a6⟩
        | none =>
          try rw [hmg] at hfull
          simp only at hfull ⊢
          have hFk : (growKids rest i x f (startsL x f) s).2.full = false := hfull
          have key : ∀ (pre vs : List Int), (growKids rest i x f (pre ++ vs) s).2.full = false → ∀ (T1 : Int → Tr), Tb (growKids rest i x f pre s).2.l T1 → Ext s.l T (growKids rest i x f pre s).2.l T1 → Done fs (growKids rest i x f pre s).2 T1 →
              (∀ (j : Nat) (v : Int), pre[j]? = some v → ∃ k, (growKids rest i x f pre s).1[j]? = some k ∧ InR (growKids rest i x f pre s).2.l k ∧ Can fs ((i : Int) + 1) (T1 k) ∧ ∀ g, Fit fs g → evT g (T1 k) = evF (rho fs g) (given x.name v f)) →
              ∃ T2, Tb (growKids rest i x f (pre ++ vs) s).2.l T2 ∧ Ext s.l T (growKids rest i x f (pre ++ vs) s).2.l T2 ∧ Done fs (growKids rest i x f (pre ++ vs) s).2 T2 ∧
                (∀ (j : Nat) (v : Int), (pre ++ vs)[j]? = some v → ∃ k, (growKids rest i x f (pre ++ vs) s).1[j]? = some k ∧ InR (growKids rest i x f (pre ++ vs) s).2.l k ∧ Can fs ((i : Int) + 1) (T2 k) ∧ ∀ g, Fit fs g → evT g (T2 k) = evF (rho fs g) (given x.name v f)) := by
            intro pre vs
            induction vs generalizing pre with
            | nil => intro _ T1 h1 h2 h3 h4; rw [List.append_nil]; exact ⟨T1, h1, h2, h3, h4⟩
            | cons v vs ihv =>
              intro hfl T1 h1 h2 h3 h4
              have hcat : pre ++ v :: vs = (pre ++ [v]) ++ vs := by simp
              rw [hcat] at hfl ⊢
              have hfl1 : (growKids rest i x f (pre ++ [v]) s).2.full = false := by
                cases hc : (growKids rest i x f (pre ++ [v]) s).2.full with
                | false => rfl
                | true =>
                  have : ∀ (vs pre : List Int), (growKids rest i x f pre s).2.full = true → (growKids rest i x f (pre ++ vs) s).2.full = true := by
                    intro vs
                    induction vs with
                    | nil => intro pre h; rw [List.append_nil]; exact h
                    | cons u vs ihu =>
                      intro pre h
                      have : pre ++ u :: vs = (pre ++ [u]) ++ vs := by simp
                      rw [this]
                      refine ihu _ ?_
                      rw [growKids_snoc]
                      exact full_stays _ _ _ _ h
                  rw [this vs _ hc] at hfl
                  cases hfl
              have hsn := growKids_snoc rest i x f pre v s
              have hfv : (growP rest ((i : Int) + 1) (given x.name v f) (growKids rest i x f pre s).2).2.full = false := by rw [hsn] at hfl1; exact hfl1
              obtain ⟨T2, g2⟩ := ih (i + 1) (given x.name v f) (growKids rest i x f pre s).2 T1 hrest (by omega) (given_form x.name v hf) (given_nrm _ _ _ hf) (fun nm hm => by
                obtain ⟨m1, m2⟩ := given_names x.name v f hf nm hm
                obtain ⟨y, hy, e⟩ := hnm nm m1
                rcases List.mem_cons.1 hy with rfl | hy
                · exact absurd e.symm m2
                · exact ⟨y, hy, e⟩) h1 h3 hfv
              refine ihv (pre ++ [v]) hfl T2 ?_ ?_ ?_ ?_
              · rw [hsn]; exact g2.tb
              · rw [hsn]; exact h2.trans g2.ext
              · rw [hsn]; exact g2.done
              · intro j u hj
                rw [hsn]
                have hlen := growKids_len rest i x f pre s
                by_cases hjl : j < pre.length
                · rw [List.getElem?_append_left hjl] at hj
                  obtain ⟨k, k1, k2, k3, k4⟩ := h4 j u hj
                  obtain ⟨e1, e2⟩ := g2.ext.2 k k2
                  exact ⟨k, by rw [List.getElem?_append_left (by omega)]; exact k1, e2, by rw [e1]; exact k3, by rw [e1]; exact k4⟩
                · rw [List.getElem?_append_right (by omega)] at hj
                  have hj0 : j = pre.length := by
                    have := (List.getElem?_eq_some_iff.1 hj).1
                    simp at this
                    omega
                  subst hj0
                  simp at hj
                  subst hj
                  exact ⟨_, by rw [List.getElem?_append_right (by omega), hlen, Nat.sub_self]; rfl, g2.rng, g2.can, g2.ev⟩
          obtain ⟨T2, t1, t2, t3, t4⟩ := key [] (startsL x f) hFk T hT (Ext.refl _ _) hd (fun j v hj => by simp at hj)
          rw [List.nil_append] at t1 t2 t3 t4
          obtain ⟨ss, hss, hA, hC⟩ := starts_asc f (hD.lohi x hxm)
          have hlen := growKids_len rest i x f (startsL x f) s
          obtain ⟨l1, l2⟩ := lo_at hxi
          rw [hss] at t1 t2 t3 t4 hlen ⊢
          generalize growKids rest i x f (x.lo :: ss) s = r at *
          obtain ⟨kids, s2⟩ := r
          cases kids with
          | nil => simp at hlen
          | cons k0 ks =>
            simp only at t1 t2 t3 t4 hlen ⊢
            obtain ⟨T3, u1, u2, u3, u4, u5⟩ := inner_tb (fs := fs) t1 (i := (i : Int)) (s0 := x.lo) (ss := ss) (k0 := k0) (ks := ks) (by omega) (by omega) l1.symm (by rw [l2]; exact hA) (by simpa using hlen) (fun k hk => by
              obtain ⟨j, hj⟩ := List.mem_iff_getElem?.1 hk
              have hjl := (List.getElem?_eq_some_iff.1 hj).1
              obtain ⟨k', k1, k2, k3, _⟩ := t4 j _ (List.getElem?_eq_getElem (by rw [← hlen]; exact hjl))
              rw [hj] at k1
              obtain rfl : k = k' := by simpa using k1
              exact ⟨k2, k3⟩)
            have hev : ∀ g, Fit fs g → evT g (T3 (innerK s2.l i (x.lo :: ss) (k0 :: ks)).1) = evF (rho fs g) f := by
              intro g hg
              have hgi := hg i (by omega) (by omega)
              rw [l1, l2] at hgi
              obtain ⟨j, st, e1, e2, e3, e4⟩ := kid_at ss x.lo (g i) (T2 k0) (ks.map T2) hA (by simpa using hlen) hgi.1
              rw [u5 g, List.map_cons]
              obtain ⟨k', k1, k2, k3, k4⟩ := t4 j st e1
              have e5 : ((k0 :: ks).map T2)[j]? = some (T2 k') := by rw [List.getElem?_map, k1]; rfl
              rw [List.map_cons, e2] at e5
              have e6 : kidAt ss (T2 k0 :: ks.map T2) (g i) = T2 k' := Option.some.inj e5
              rw [e6, k4 g hg]
              have hgb := given_between x.name e3 f (fun c hc hcv => by
                by_cases hlo : x.lo ≤ c
                · exact e4 c (hC c hc hlo (by omega)) hcv
                · have := e4 x.lo (by simp) hgi.1; omega)
              rw [hgb, given_ev _ _ _ _ hf, upF_rho hD hxi]
            refine ⟨T3, u1, t2.trans u2, fun p hp => ?_, u3, u4, hev⟩
            rcases mput_mem hp with rfl | hp
            · exact ⟨i, f, rfl, by omega, hf, u3, u4, hev⟩
            · obtain ⟨j, f', a1, a2, a3, a4, a5, a6⟩ := t3 p hp
              obtain ⟨e1, e2⟩ := u2.2 _ a4
              exact ⟨j, f', a1, a2, a3, e2, by rw [e1]; exact a5, by rw [e1]; exact a6⟩
end Go.Proofs.YtfajbcjcigajfaaGreatDoor
