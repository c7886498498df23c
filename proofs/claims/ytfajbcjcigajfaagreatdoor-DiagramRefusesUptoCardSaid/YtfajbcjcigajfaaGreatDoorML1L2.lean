/- Part of the proof of a law of customhouselaw26: the texts L1 L2. -/
import Derived.Test.YtfajbcjcigajfaaGreatDoorMI1
import Derived.Test.YtfajbcjcigajfaaGreatDoorMP10P11P12
import Derived.Test.YtfajbcjcigajfaaGreatDoorMT1T2
import Derived.Test.YtfajbcjcigajfaaGreatDoorMH4H5
/- The least case of a canonical tree. -/
namespace Go.Proofs.YtfajbcjcigajfaaGreatDoor
open Go.RowKit

abbrev gl (c : List Int) : Int → Int := fun i => c.getD i.toNat 0
theorem less_char : ∀ (q p : List Int), lessL q p = true → ∃ m : Nat, m < q.length ∧ m < p.length ∧ (∀ j : Nat, j < m → q.getD j 0 = p.getD j 0) ∧ q.getD m 0 < p.getD m 0
  | [], _, h => by simp [lessL] at h
  | _ :: _, [], h => by simp [lessL] at h
  | x :: a, y :: b, h => by
    rw [lessL] at h
    by_cases e : x = y
    · rw [if_pos e] at h
      obtain ⟨m, h1, h2, h3, h4⟩ := less_char a b h
      refine ⟨m + 1, by simpa using h1, by simpa using h2, fun j hj => ?_, by simpa using h4⟩
      cases j with
      | zero => simpa using e
      | succ j => simpa using h3 j (by omega)
    · rw [if_neg e] at h
      exact ⟨0, by simp, by simp, fun j hj => by omega, by simpa using h⟩
theorem asc_step {hi : Int} : ∀ {cs : List Int} {lo : Int}, Asc hi lo cs → ∀ (a b : Nat), a < b → b < cs.length → cs.getD a 0 < cs.getD b 0
  | [], _, _, a, b, _, hb => by simp at hb
  | c :: cs, lo, ⟨h1, h2, h3⟩, a, 0, ha, _ => by omega
  | c :: cs, lo, ⟨h1, h2, h3⟩, 0, b + 1, _, hb => by
    have hb' : b < cs.length := by simpa using hb
    have := (asc_le h2 h3 b hb').1
    rw [List.getD_cons_succ, List.getD_cons_zero, List.getD_eq_getElem?_getD, List.getElem?_eq_getElem hb']
    exact this
  | c :: cs, lo, ⟨h1, h2, h3⟩, a + 1, b + 1, ha, hb => by
    have := asc_step h3 a b (by omega) (by simpa using hb)
    simpa using this
theorem sel_le' {cs : List Int} {v : Int} {a : Nat} (h : a < selI cs v) : cs.getD a 0 ≤ v := by
  unfold selI at h
  have h1 := List.not_of_lt_findIdx h
  have hl : a < cs.length := Nat.lt_of_lt_of_le h List.findIdx_le_length
  rw [List.getD_eq_getElem?_getD, List.getElem?_eq_getElem hl]
  simpa using h1
theorem sel_eq {cs : List Int} {v : Int} {j : Nat} (h1 : ∀ a, a < j → cs.getD a 0 ≤ v) (h2 : ∀ a, j ≤ a → a < cs.length → v < cs.getD a 0) (hj : j ≤ cs.length) : selI cs v = j := by
  rcases Nat.lt_trichotomy (selI cs v) j with h | h | h
  · exfalso
    have hl : selI cs v < cs.length := by omega
    have h3 : decide (v < cs[selI cs v]) = true := List.findIdx_getElem (w := hl)
    have h4 := h1 _ h
    rw [List.getD_eq_getElem?_getD, List.getElem?_eq_getElem hl] at h4
    simp only [decide_eq_true_eq, Option.getD_some] at h3 h4
    omega
  · exact h
  · exfalso
    have hle : selI cs v ≤ cs.length := List.findIdx_le_length
    have := h2 j (Nat.le_refl _) (by omega)
    have := sel_le' h
    omega
theorem idxI_spec {α : Type} {p : α → Bool} {xs : List α} {j : Nat} (h : idxI p xs = j) : ∃ hj : j < xs.length, p xs[j] = true ∧ ∀ a (ha : a < j), p (xs[a]'(by omega)) = false := by
  unfold idxI at h
  cases hi : xs.findIdx? p with
  | none => rw [hi] at h; simp at h
  | some i =>
    rw [hi] at h
    have : i = j := by
      have h' : (i : Int) = j := h
      omega
    subst this
    rw [List.findIdx?_eq_some_iff_getElem] at hi
    obtain ⟨h1, h2, h3⟩ := hi
    exact ⟨h1, h2, fun a ha => by simpa using h3 a ha⟩
theorem live_tr {fs : List Fc} {m : Int} {s : Tr} (h : Can fs m s) (o : List Tr) : liveN (ndT o s) = false ↔ s = .leaf false := by
  cases h with
  | leaf n b => cases b <;> simp [ndT, liveN]
  | ask _ i cs ks h1 h2 h3 h4 h5 h6 h7 =>
    simp only [ndT, liveN, List.length_map]
    constructor
    · intro h
      simp at h
      rw [h] at h5; simp at h5
    · intro h; cases h
theorem gl_set {c : List Int} {i : Int} {v : Int} (h0 : 0 ≤ i) (hi : i < c.length) (m : Int) (hm : 0 ≤ m) : gl (c.set i.toNat v) m = if m = i then v else gl c m := by
  unfold gl
  by_cases e : m = i
  · subst e
    rw [if_pos rfl, List.getD_eq_getElem?_getD, List.getElem?_set_self (by omega)]; rfl
  · rw [if_neg e, List.getD_eq_getElem?_getD, List.getElem?_set_ne (by omega), ← List.getD_eq_getElem?_getD]
theorem least_ser {fs : List Fc} {o : List Tr} (ho : Clo o) (hV : VG (serT o) fs) {n : Int} {t : Tr} (h : Can fs n t) : 0 ≤ n → t ∈ o → t ≠ .leaf false → ∀ c : List Int, c.length = fs.length → Fit fs (gl c) → (∀ m : Int, n ≤ m → m < fs.length → gl c m = loF fs m) →
    ∃ p, leastW (serT o) (lvlC (serT o) fs.length (posT o t)) (posT o t) c = (p, true) ∧ p.length = fs.length ∧ Fit fs (gl p) ∧ (∀ m : Int, 0 ≤ m → m < n → gl p m = gl c m) ∧ evT (gl p) t = true ∧
      ∀ q : List Int, q.length = fs.length → Fit fs (gl q) → (∀ m : Int, 0 ≤ m → m < n → gl q m = gl p m) → evT (gl q) t = true → lessL q p = false := by
  induction h with
  | leaf n b =>
    intro h0 hm hne c hcl hfit hlo
    have hb : b = true := by
      cases b with
      | true => rfl
      | false => exact absurd rfl hne
    subst hb
    have hnd : ndAt (serT o) (posT o (.leaf true)) = ⟨true, 0, [], []⟩ := nd_pos hm
    refine ⟨c, ?_, hcl, hfit, fun _ _ _ => rfl, by rw [evT], fun q hql hqf hqe _ => ?_⟩
    · have e : lvlC (serT o) fs.length (posT o (.leaf true)) = 1 := by unfold lvlC; rw [hnd]; rfl
      rw [e, leastW, hnd]; rfl
    · rw [Bool.eq_false_iff]; intro hl
      obtain ⟨m, h1, h2, h3, h4⟩ := less_char q c hl
      by_cases hmn : (m : Int) < n
      · have := hqe m (by omega) hmn
        simp only [gl, Int.toNat_natCast] at this; omega
      · have e1 := hlo m (by omega) (by omega)
        have e2 := (hqf m (by omega) (by omega)).1
        simp only [gl, Int.toNat_natCast] at e1 e2; omega
  | ask n i cs ks h1 h2 h3 h4 h5 h6 h7 ih =>
    intro h0 hm hne c hcl hfit hlo
    have hc : Can fs n (.ask i cs ks) := .ask n i cs ks h1 h2 h3 h4 h5 h6 h7
    have hnd : ndAt (serT o) (posT o (.ask i cs ks)) = ⟨false, i, cs, ks.map (posT o)⟩ := nd_pos hm
    have hk : InR (serT o) (posT o (.ask i cs ks)) := by
      have := (atT_pos hm).2
      unfold InR; rw [serT_len]; exact this
    have hkn : (ndAt (serT o) (posT o (.ask i cs ks))).kids ≠ [] := by
      rw [hnd]; intro e
      have e2 : ks = [] := by simpa using e
      rw [e2] at h5; simp at h5
    obtain ⟨j, hj, hjl⟩ := live_some hV hk hkn
    have hjk : j < ks.length := by rw [hnd] at hjl; simpa using hjl
    have hmk : ∀ a (ha : a < ks.length), ks[a] ∈ o := fun a ha => ho.kids _ hm _ (List.getElem_mem ha)
    have hj2 : idxI (fun k => liveN (ndAt (serT o) k)) (ks.map (posT o)) = j := by
      have := hj; unfold liveI at this; rw [hnd] at this; exact this
    obtain ⟨_, hp, hbef⟩ := idxI_spec hj2
    have hlive : ks[j] ≠ .leaf false := fun e => by
      rw [List.getElem_map, nd_pos (hmk j hjk), (live_tr (h7 _ (List.getElem_mem hjk)) o).2 e] at hp
      cases hp
    have hdead : ∀ a (ha : a < j), ks[a]'(by omega) = .leaf false := fun a ha => by
      have := hbef a ha
      rw [List.getElem_map, nd_pos (hmk a (by omega))] at this
      exact (live_tr (h7 _ (List.getElem_mem (by omega))) o).1 this
    have hstep := leastW_step hV c hk hkn hj hjl
    have hkj : (ndAt (serT o) (posT o (.ask i cs ks))).kids[j] = posT o ks[j] := by simp [hnd]
    have hfa : (ndAt (serT o) (posT o (.ask i cs ks))).fact = i := by rw [hnd]
    have hcu : (ndAt (serT o) (posT o (.ask i cs ks))).cuts = cs := by rw [hnd]
    rw [hkj, hfa, hcu] at hstep
    have hi0 : 0 ≤ i := by omega
    have hic : i < c.length := by omega
    have hjc : j ≤ cs.length := by omega
    have hlh : loF fs i ≤ hiF fs i := by have := hfit i hi0 h2; omega
    -- the value that the fact i takes
    obtain ⟨v, hv, hvlo, hvhi, hvle, hvlt⟩ : ∃ v : Int, (∀ m : Int, 0 ≤ m → gl (if 0 < j then c.set i.toNat (cs.getD (j - 1) 0) else c) m = if m = i then v else gl c m) ∧ loF fs i ≤ v ∧ v ≤ hiF fs i ∧ (∀ w : Int, loF fs i ≤ w → (∀ a, a < j → cs.getD a 0 ≤ w) → v ≤ w) ∧ selI cs v = j := by
      by_cases hj0 : 0 < j
      · have hjl2 : j - 1 < cs.length := by omega
        have hb := asc_le hlh h3 (j - 1) hjl2
        have hg : cs.getD (j - 1) 0 = cs[j - 1] := by rw [List.getD_eq_getElem?_getD, List.getElem?_eq_getElem hjl2]; rfl
        refine ⟨cs.getD (j - 1) 0, fun m hm0 => ?_, by omega, by omega, fun w _ h => h _ (by omega), sel_eq (fun a ha => ?_) (fun a ha hal => ?_) hjc⟩
        · rw [if_pos hj0]; exact gl_set hi0 hic m hm0
        · rcases Nat.lt_or_ge a (j - 1) with h' | h'
          · exact Int.le_of_lt (asc_step h3 a (j - 1) h' hjl2)
          · have : a = j - 1 := by omega
            rw [this]; omega
        · exact asc_step h3 (j - 1) a (by omega) hal
      · have hj0' : j = 0 := by omega
        refine ⟨loF fs i, fun m hm0 => ?_, Int.le_refl _, hlh, fun w h _ => h, sel_eq (fun a ha => by omega) (fun a ha hal => ?_) hjc⟩
        · rw [if_neg hj0]
          by_cases e : m = i
          · subst e; rw [if_pos rfl]; exact hlo m h1 h2
          · rw [if_neg e]
        · have := (asc_le hlh h3 a hal).1
          rw [List.getD_eq_getElem?_getD, List.getElem?_eq_getElem hal]; exact this
    generalize hc' : (if 0 < j then c.set i.toNat (cs.getD (j - 1) 0) else c) = c' at hstep hv
    have hcl' : c'.length = fs.length := by rw [← hc']; split <;> simp [hcl]
    have hfit' : Fit fs (gl c') := fun m hm0 hml => by
      rw [hv m hm0]
      split
      · rename_i e; subst e; exact ⟨hvlo, hvhi⟩
      · exact hfit m hm0 hml
    have hlo' : ∀ m : Int, i + 1 ≤ m → m < fs.length → gl c' m = loF fs m := fun m hm1 hml => by
      rw [hv m (by omega), if_neg (by omega)]; exact hlo m (by omega) hml
    obtain ⟨p, e1, e2, e3, e4, e5, e6⟩ := ih ks[j] (List.getElem_mem hjk) (by omega) (hmk j hjk) hlive c' hcl' hfit' hlo'
    have hpi : gl p i = v := by rw [e4 i hi0 (by omega), hv i hi0, if_pos rfl]
    have hpb : ∀ m : Int, 0 ≤ m → m < i → gl p m = gl c m := fun m hm0 hmi => by rw [e4 m hm0 (by omega), hv m hm0, if_neg (by omega)]
    have hkp : kidAt cs ks v = ks[j] := by
      unfold kidAt; rw [hvlt, List.getD_eq_getElem?_getD, List.getElem?_eq_getElem hjk]; rfl
    refine ⟨p, by rw [hstep]; exact e1, e2, e3, fun m hm0 hmn => hpb m hm0 (by omega), ?_, fun q hql hqf hqe hqt => ?_⟩
    · rw [(ev_ask hc _).1, hpi, hkp]; exact e5
    · rw [Bool.eq_false_iff]; intro hl
      obtain ⟨m, l1, l2, l3, l4⟩ := less_char q p hl
      rw [(ev_ask hc _).1] at hqt
      have hsl : selI cs (gl q i) < ks.length := by
        have : selI cs (gl q i) ≤ cs.length := List.findIdx_le_length
        omega
      have hjq : j ≤ selI cs (gl q i) := by
        rcases Nat.lt_or_ge (selI cs (gl q i)) j with h' | h'
        · exfalso
          have := hdead _ h'
          unfold kidAt at hqt
          rw [List.getD_eq_getElem?_getD, List.getElem?_eq_getElem hsl, Option.getD_some, this, evT] at hqt
          cases hqt
        · exact h'
      have hge : v ≤ gl q i := hvle _ (hqf i hi0 h2).1 (fun a ha => sel_le' (by omega))
      have l4' : gl q m < gl p m := by simpa [gl] using l4
      rcases Int.lt_trichotomy (m : Int) i with hmi | hmi | hmi
      · by_cases hmn : (m : Int) < n
        · have := hqe m (by omega) hmn; omega
        · have := hlo m (by omega) (by omega)
          have h9 := hpb m (by omega) hmi
          have := (hqf m (by omega) (by omega)).1
          omega
      · rw [hmi] at l4'; omega
      · have hqp : ∀ a : Int, 0 ≤ a → a < i + 1 → gl q a = gl p a := fun a ha0 hai => by
          have := l3 a.toNat (by omega)
          exact this
        have hqi : gl q i = v := by rw [hqp i hi0 (by omega), hpi]
        rw [hqi, hkp] at hqt
        rw [e6 q hql hqf hqp hqt] at hl
        cases hl
theorem fits_of {fs : List Fc} {c : List Int} (hv : validD fs = true) (hl : c.length = fs.length) (hf : Fit fs (gl c)) : fitsF fs c = true := by
  have hr : rangeF fs c = true := range_yes hl (fun j x v hx hc => by
    have h1 := (List.getElem?_eq_some_iff.1 hx).1
    have h2 := hf j (by omega) (by omega)
    have h3 := lo_at hx
    rw [h3.1, h3.2] at h2
    have h4 : gl c j = v := by simp only [gl, Int.toNat_natCast]; rw [List.getD_eq_getElem?_getD, hc]; rfl
    rw [h4] at h2
    unfold inF; simp [h2.1, h2.2])
  simp [fitsF, hv, hl, hr]
theorem start_fit {fs : List Fc} (hv : validD fs = true) : Fit fs (gl (fs.map (·.lo))) := fun m h0 hm => by
  have hlt : m.toNat < fs.length := by omega
  have h1 := lo_at (List.getElem?_eq_getElem hlt)
  rw [show ((m.toNat : Nat) : Int) = m by omega] at h1
  have h2 := valid_lohi hv _ (List.getElem_mem hlt)
  have h3 : gl (fs.map (·.lo)) m = loF fs m := rfl
  rw [h3, h1.1, h1.2]; omega
/-- What the least case of a built diagram is. -/
theorem build_least {fs : List Fc} {f : Fm} (h : (buildK fs f).2 = 0) :
    ((leastK fs (buildK fs f).1).2 = true → fitsF fs (leastK fs (buildK fs f).1).1 = true ∧ holdsF fs (leastK fs (buildK fs f).1).1 f = true ∧ ∀ c, fitsF fs c = true → holdsF fs c f = true → lessL c (leastK fs (buildK fs f).1).1 = false) ∧
    ((leastK fs (buildK fs f).1).2 = false → (leastK fs (buildK fs f).1).1 = [] ∧ ∀ c, fitsF fs c = true → holdsF fs c f = false) := by
  have hval := (build_means h).1
  obtain ⟨hv, hck, t, hc, e, hl, hev⟩ := build_tree h
  have hho : ∀ c, fitsF fs c = true → holdsF fs c f = evT (gl c) t := fun c hf => by
    obtain ⟨_, hfit⟩ := fit_case hf
    rw [hev _ hfit, rho_case]
    unfold holdsF
    rw [hf, hck]; rfl
  have hlk : leastK fs (buildK fs f).1 = leastW (serT (visitT [] t)) (lvlC (serT (visitT [] t)) fs.length 0) 0 (fs.map (·.lo)) := by
    unfold leastK; rw [if_pos hval, e]
  rw [e] at hval
  obtain ⟨hV, _, _⟩ := vg_of hval
  obtain ⟨hp0, hm⟩ := pos_root t
  have ho := (visit_clo t).1
  by_cases ht : t = .leaf false
  · have hnd : ndAt (serT (visitT [] t)) 0 = ⟨false, 0, [], []⟩ := by
      have := nd_pos hm
      rw [hp0] at this
      rw [this, ht]; rfl
    have e1 : lvlC (serT (visitT [] t)) fs.length 0 = 1 := by unfold lvlC; rw [hnd]; rfl
    have e2 : leastK fs (buildK fs f).1 = ([], false) := by rw [hlk, e1, leastW, hnd]; rfl
    rw [e2]
    refine ⟨fun h => (by cases h), fun _ => ⟨rfl, fun c hf => ?_⟩⟩
    rw [hho c hf, ht, evT]
  · obtain ⟨p, e1, e2, e3, _, e5, e6⟩ := least_ser ho hV hc (Int.le_refl _) hm ht (fs.map (·.lo)) (by simp) (start_fit hv) (fun m _ _ => rfl)
    rw [hp0] at e1
    rw [hlk, e1]
    have hf := fits_of hv e2 e3
    refine ⟨fun _ => ⟨hf, by rw [hho p hf]; exact e5, fun c hfc hhc => ?_⟩, fun h => by cases h⟩
    obtain ⟨hcl, hfit⟩ := fit_case hfc
    rw [hho c hfc] at hhc
    exact e6 c hcl hfit (fun m h0 h1 => by omega) hhc
end Go.Proofs.YtfajbcjcigajfaaGreatDoor
/- The walk of customhouselaw26.pair. -/
namespace Go.Proofs.YtfajbcjcigajfaaGreatDoor
open Go.RowKit

theorem nds_up {w w' : World} {v : Value} {l : List Nd} (h : NdsAt AnyB w v l) (hb : Below w.heap.size w w') : NdsAt AnyB w' v l := h.keep hb.size (Agree.of_below hb) (fun _ _ _ => trivial)
theorem fcs_up {w w' : World} {v : Value} {l : List Fc} (h : FcsAt AnyB w v l) (hb : Below w.heap.size w w') : FcsAt AnyB w' v l := h.keep hb.size (Agree.of_below hb) (fun _ _ _ => trivial)
theorem fm_up {w w' : World} {d : Nat} {f : Fm} {cs : List Value} (h : FmR AnyB w d f cs) (hb : Below w.heap.size w w') : FmR AnyB w' d f cs := h.keep hb.size (Agree.of_below hb) (fun _ _ _ => trivial)
/-- A box of a diagram is written over; another diagram stays. -/
theorem nds_store {w : World} {va vb : Value} {g : List Nd} {b n m : Nat} {x : Option Addr} (hbox : w.heap[b]? = some (.cells #[.slice x n m] 34 (0, 0))) (hn : NdsAt AnyB w vb g) : NdsAt AnyB (w.setCell ⟨b, 0, none⟩ va) vb g :=
  (nds_ne hn hbox).keep (by simp [World.setCell]) (fun k _ hk => Below.heap_setCell _ _ _ _ hk) (fun _ _ _ => trivial)
theorem box_set {w : World} {b : Nat} {x : Value} (va : Value) (hbox : w.heap[b]? = some (.cells #[x] 34 (0, 0))) : (w.setCell ⟨b, 0, none⟩ va).heap[b]? = some (.cells #[va] 34 (0, 0)) := by
  rw [heap_setCell_same w b 0 _ 34 va hbox]; rfl
def pairS (fs : List Fc) (f g : Fm) : Bool := smallB f fs && smallB g fs
def keepB (b : Bool) (l : List Nd) : List Nd := if b = true then l else []
def pairOk (fs : List Fc) (f g : Fm) : Bool := (smallB f fs && smallB g fs) && ((buildK fs f).2 == 0 && (buildK fs g).2 == 0)
set_option maxRecDepth 100000 in
set_option maxHeartbeats 20000000 in
theorem pair_any (d d2 : Nat) (f g : Fm) (A A2 : Option Addr) (c c2 : Nat) (fs : List Fc) (vd : Value) (w : World) (hf : FmR AnyB w d f (fv f A c)) (hg : FmR AnyB w d2 g (fv g A2 c2)) (hx : FcsAt AnyB w vd fs) (ht : Tab w) :
    Calls Tryz.prog 19 #[fmV f A c, fmV g A2 c2, .agg #[vd]] w fun e w' => ∃ va vb, e = .returned (.tuple #[.agg #[va], .agg #[vb], .bool (pairOk fs f g)]) ∧ NdsAt AnyB w' va (keepB (pairS fs f g) (buildK fs f).1) ∧ NdsAt AnyB w' vb (keepB (pairS fs f g) (buildK fs g).1) ∧ Below w.heap.size w w' := by
  obtain ⟨AD, cD, rfl, _⟩ := id hx
  have HT := Lib.hid (Lib.tabBelow_of_tabIs ht)
  have HB0 := Lib.hid (show Below w.heap.size w (((((w.alloc (.cells #[.int .i64 f.op, .string f.name, .int .i64 f.cmp, .int .i64 f.n, .slice A f.kids.length c] 24)).alloc (.cells #[.int .i64 g.op, .string g.name, .int .i64 g.cmp, .int .i64 g.n, .slice A2 g.kids.length c2] 24)).alloc (.cells #[.slice AD fs.length cD] 27)).alloc (.cells #[.slice none 0 0] 34)).alloc (.cells #[.slice none 0 0] 34)) from (((((Below.refl _ _).alloc (Nat.le_refl _) _).alloc (by simp only [World.alloc, Array.size_push]; omega) _).alloc (by simp only [World.alloc, Array.size_push]; omega) _).alloc (by simp only [World.alloc, Array.size_push]; omega) _).alloc (by simp only [World.alloc, Array.size_push]; omega) _)
  have C1 := Lib.hid (show (((((w.alloc (.cells #[.int .i64 f.op, .string f.name, .int .i64 f.cmp, .int .i64 f.n, .slice A f.kids.length c] 24)).alloc (.cells #[.int .i64 g.op, .string g.name, .int .i64 g.cmp, .int .i64 g.n, .slice A2 g.kids.length c2] 24)).alloc (.cells #[.slice AD fs.length cD] 27)).alloc (.cells #[.slice none 0 0] 34)).alloc (.cells #[.slice none 0 0] 34)).heap[w.heap.size]? = some (.cells #[.int .i64 f.op, .string f.name, .int .i64 f.cmp, .int .i64 f.n, .slice A f.kids.length c] 24 (0, 0)) from old_ (old_ (old_ (old_ (new_ _ _)))))
  have C2 := Lib.hid (show (((((w.alloc (.cells #[.int .i64 f.op, .string f.name, .int .i64 f.cmp, .int .i64 f.n, .slice A f.kids.length c] 24)).alloc (.cells #[.int .i64 g.op, .string g.name, .int .i64 g.cmp, .int .i64 g.n, .slice A2 g.kids.length c2] 24)).alloc (.cells #[.slice AD fs.length cD] 27)).alloc (.cells #[.slice none 0 0] 34)).alloc (.cells #[.slice none 0 0] 34)).heap[w.heap.size + 1]? = some (.cells #[.int .i64 g.op, .string g.name, .int .i64 g.cmp, .int .i64 g.n, .slice A2 g.kids.length c2] 24 (0, 0)) from old_ (old_ (old_ (alk _ _ (by simp only [World.alloc, Array.size_push])))))
  have C3 := Lib.hid (show (((((w.alloc (.cells #[.int .i64 f.op, .string f.name, .int .i64 f.cmp, .int .i64 f.n, .slice A f.kids.length c] 24)).alloc (.cells #[.int .i64 g.op, .string g.name, .int .i64 g.cmp, .int .i64 g.n, .slice A2 g.kids.length c2] 24)).alloc (.cells #[.slice AD fs.length cD] 27)).alloc (.cells #[.slice none 0 0] 34)).alloc (.cells #[.slice none 0 0] 34)).heap[w.heap.size + 1 + 1]? = some (.cells #[.slice AD fs.length cD] 27 (0, 0)) from old_ (old_ (alk _ _ (by simp only [World.alloc, Array.size_push]))))
  have C4 := Lib.hid (show (((((w.alloc (.cells #[.int .i64 f.op, .string f.name, .int .i64 f.cmp, .int .i64 f.n, .slice A f.kids.length c] 24)).alloc (.cells #[.int .i64 g.op, .string g.name, .int .i64 g.cmp, .int .i64 g.n, .slice A2 g.kids.length c2] 24)).alloc (.cells #[.slice AD fs.length cD] 27)).alloc (.cells #[.slice none 0 0] 34)).alloc (.cells #[.slice none 0 0] 34)).heap[w.heap.size + 1 + 1 + 1]? = some (.cells #[.slice none 0 0] 34 (0, 0)) from old_ (alk _ _ (by simp only [World.alloc, Array.size_push])))
  have C5 := Lib.hid (show (((((w.alloc (.cells #[.int .i64 f.op, .string f.name, .int .i64 f.cmp, .int .i64 f.n, .slice A f.kids.length c] 24)).alloc (.cells #[.int .i64 g.op, .string g.name, .int .i64 g.cmp, .int .i64 g.n, .slice A2 g.kids.length c2] 24)).alloc (.cells #[.slice AD fs.length cD] 27)).alloc (.cells #[.slice none 0 0] 34)).alloc (.cells #[.slice none 0 0] 34)).heap[w.heap.size + 1 + 1 + 1 + 1]? = some (.cells #[.slice none 0 0] 34 (0, 0)) from alk _ _ (by simp only [World.alloc, Array.size_push]))
  have HF := Lib.hid hf
  have HG := Lib.hid hg
  have HX := Lib.hid hx
  clear hf hg hx ht
  go_enter Tryz.func19, Tryz.ntmps19
  go_wp2_with fail
  refine (small_any d AnyB AnyB f A c fs _ _ (fm_up HF.out HB0.out) (fcs_up HX.out HB0.out)).mono ?_
  rintro e w1 ⟨rfl, hb1⟩
  have HB1 := Lib.hid (bthen HB0.out hb1)
  have D1 := Lib.hid (below_ hb1 C1.out)
  have D2 := Lib.hid (below_ hb1 C2.out)
  have D3 := Lib.hid (below_ hb1 C3.out)
  have D4 := Lib.hid (below_ hb1 C4.out)
  have D5 := Lib.hid (below_ hb1 C5.out)
  clear hb1 HB0 C1 C2 C3 C4 C5
  obtain ⟨s00, s01, s02, s03, s04, _⟩ := five_ D1.out
  have l0 := blt_ D1.out
  obtain ⟨s10, s11, s12, s13, s14, _⟩ := five_ D2.out
  have l1 := blt_ D2.out
  obtain ⟨q2, _⟩ := one_ D3.out
  have l2 := blt_ D3.out
  obtain ⟨q3, _⟩ := one_ D4.out
  have l3 := blt_ D4.out
  obtain ⟨q4, _⟩ := one_ D5.out
  have l4 := blt_ D5.out
  cases hsf : smallB f fs
  ·
    go_wp2_with fail
    refine bodyPost_ret (v := .tuple #[.agg #[.slice none 0 0], .agg #[.slice none 0 0], .bool false]) (by simp [results, Tryz.results19, go_sem, q3, q4]) rfl ?_
    refine ⟨.slice none 0 0, .slice none 0 0, by simp [pairOk, hsf], ?_, ?_, ?_⟩
    · rw [show pairS fs f g = false by simp [pairS, hsf]]; exact SliceAt.nil _ _ _ _
    · rw [show pairS fs f g = false by simp [pairS, hsf]]; exact SliceAt.nil _ _ _ _
    · exact (HB1.out.setCell (p := ⟨w.heap.size + 1 + 1 + 1, 0, none⟩) (by simp only; omega) _).setCell (p := ⟨w.heap.size + 1 + 1 + 1 + 1, 0, none⟩) (by simp only; omega) _
  ·
    go_wp2_with fail
    refine (small_any d2 AnyB AnyB g A2 c2 fs _ w1 (fm_up HG.out HB1.out) (fcs_up HX.out HB1.out)).mono ?_
    rintro e w2 ⟨rfl, hb2⟩
    have HB2 := Lib.hid (bthen HB1.out hb2)
    have E1 := Lib.hid (below_ hb2 D1.out)
    have E2 := Lib.hid (below_ hb2 D2.out)
    have E3 := Lib.hid (below_ hb2 D3.out)
    have E4 := Lib.hid (below_ hb2 D4.out)
    have E5 := Lib.hid (below_ hb2 D5.out)
    clear hb2 HB1 D1 D2 D3 D4 D5 s00 s01 s02 s03 s04 s10 s11 s12 s13 s14 q2 q3 q4 l0 l1 l2 l3 l4
    obtain ⟨s00, s01, s02, s03, s04, _⟩ := five_ E1.out
    have l0 := blt_ E1.out
    obtain ⟨s10, s11, s12, s13, s14, _⟩ := five_ E2.out
    have l1 := blt_ E2.out
    obtain ⟨q2, _⟩ := one_ E3.out
    have l2 := blt_ E3.out
    obtain ⟨q3, _⟩ := one_ E4.out
    have l3 := blt_ E4.out
    obtain ⟨q4, _⟩ := one_ E5.out
    have l4 := blt_ E5.out
    cases hsg : smallB g fs
    ·
      go_wp2_with fail
      refine bodyPost_ret (v := .tuple #[.agg #[.slice none 0 0], .agg #[.slice none 0 0], .bool false]) (by simp [results, Tryz.results19, go_sem, q3, q4]) rfl ?_
      refine ⟨.slice none 0 0, .slice none 0 0, by simp [pairOk, hsg], ?_, ?_, ?_⟩
      · rw [show pairS fs f g = false by simp [pairS, hsg]]; exact SliceAt.nil _ _ _ _
      · rw [show pairS fs f g = false by simp [pairS, hsg]]; exact SliceAt.nil _ _ _ _
      · exact (HB2.out.setCell (p := ⟨w.heap.size + 1 + 1 + 1, 0, none⟩) (by simp only; omega) _).setCell (p := ⟨w.heap.size + 1 + 1 + 1 + 1, 0, none⟩) (by simp only; omega) _
    ·
      have hnf : nodesF f ≤ 250 := by
        unfold smallB at hsf
        simp only [Bool.and_eq_true, decide_eq_true_eq] at hsf
        exact hsf.1.1
      have hng : nodesF g ≤ 250 := by
        unfold smallB at hsg
        simp only [Bool.and_eq_true, decide_eq_true_eq] at hsg
        exact hsg.1.1
      have HN := Lib.hid (And.intro hnf hng)
      have HPK := Lib.hid (show pairOk fs f g = ((buildK fs f).2 == 0 && (buildK fs g).2 == 0) by simp [pairOk, hsf, hsg])
      have HPS := Lib.hid (show pairS fs f g = true by simp [pairS, hsf, hsg])
      clear hnf hng hsf hsg
      go_wp2_with fail
      refine (build_any AnyB AnyB d f A c fs _ w2 (fm_up HF.out HB2.out) (by have := HN.out.1; omega) (fcs_up HX.out HB2.out) (HT.out _ HB2.out)).mono ?_
      rintro e w3 ⟨va, rfl, ha, hb3⟩
      obtain ⟨Aa, ca, rfl, _⟩ := id ha
      have HA := Lib.hid ha
      clear ha
      obtain ⟨ga, ena, hba⟩ : ∃ g' en, buildK fs f = (g', en) := ⟨_, _, rfl⟩
      rw [hba] at HA ⊢
      dsimp only at HA ⊢
      have HBA := Lib.hid hba
      clear hba
      have HB3 := Lib.hid (bthen HB2.out hb3)
      have F1 := Lib.hid (below_ hb3 E1.out)
      have F2 := Lib.hid (below_ hb3 E2.out)
      have F3 := Lib.hid (below_ hb3 E3.out)
      have F4 := Lib.hid (below_ hb3 E4.out)
      have F5 := Lib.hid (below_ hb3 E5.out)
      clear hb3 HB2 E1 E2 E3 E4 E5 s00 s01 s02 s03 s04 s10 s11 s12 s13 s14 q2 q3 q4 l0 l1 l2 l3 l4
      have HB3' := Lib.hid (HB3.out.alloc HB3.out.size (.cells #[.slice Aa ga.length ca] 34))
      have G1 := Lib.hid (old_ (o := .cells #[.slice Aa ga.length ca] 34) F1.out)
      have G2 := Lib.hid (old_ (o := .cells #[.slice Aa ga.length ca] 34) F2.out)
      have G3 := Lib.hid (old_ (o := .cells #[.slice Aa ga.length ca] 34) F3.out)
      have G4 := Lib.hid (old_ (o := .cells #[.slice Aa ga.length ca] 34) F4.out)
      have G5 := Lib.hid (old_ (o := .cells #[.slice Aa ga.length ca] 34) F5.out)
      have G6 := Lib.hid (new_ w3 (.cells #[.slice Aa ga.length ca] 34))
      have HA' := Lib.hid (nds_up HA.out (box_below w3 (.cells #[.slice Aa ga.length ca] 34)))
      go_upto_region 4 with fail
      obtain ⟨W, hW⟩ : ∃ W, W = w3.alloc (.cells #[.slice Aa ga.length ca] 34) := ⟨_, rfl⟩
      rw [← hW] at HB3' G1 G2 G3 G4 G5 G6 HA' ⊢
      have hzW := blt_ G6.out
      have hw3 := blt_ F5.out
      clear hW HB3 F1 F2 F3 F4 F5 HA
      generalize w3.heap.size = ba at *
      obtain ⟨s00, s01, s02, s03, s04, _⟩ := five_ G1.out
      have l0 := blt_ G1.out
      obtain ⟨s10, s11, s12, s13, s14, _⟩ := five_ G2.out
      have l1 := blt_ G2.out
      obtain ⟨q2, _⟩ := one_ G3.out
      have l2 := blt_ G3.out
      obtain ⟨q3, _⟩ := one_ G4.out
      have l3 := blt_ G4.out
      obtain ⟨q4, _⟩ := one_ G5.out
      have l4 := blt_ G5.out
      obtain ⟨q5, _⟩ := one_ G6.out
      have l5 := blt_ G6.out
      go_wp2_with fail
      refine (build_any AnyB AnyB d2 g A2 c2 fs _ W (fm_up HG.out HB3'.out) (by have := HN.out.2; omega) (fcs_up HX.out HB3'.out) (HT.out _ HB3'.out)).mono ?_
      rintro e w4 ⟨vb, rfl, hb, hb4⟩
      obtain ⟨Ab, cb, rfl, _⟩ := id hb
      have HBn := Lib.hid hb
      clear hb
      obtain ⟨gb, enb, hbb⟩ : ∃ g' en, buildK fs g = (g', en) := ⟨_, _, rfl⟩
      rw [hbb] at HBn ⊢
      dsimp only at HBn ⊢
      have HBB := Lib.hid hbb
      clear hbb
      have HB4 := Lib.hid (bthen HB3'.out hb4)
      have H1 := Lib.hid (below_ hb4 G1.out)
      have H2 := Lib.hid (below_ hb4 G2.out)
      have H3 := Lib.hid (below_ hb4 G3.out)
      have H4 := Lib.hid (below_ hb4 G4.out)
      have H5 := Lib.hid (below_ hb4 G5.out)
      have H6 := Lib.hid (below_ hb4 G6.out)
      have HA4 := Lib.hid (nds_up HA'.out hb4)
      clear hb4 HB3' HA' G1 G2 G3 G4 G5 G6 q5 l5 s00 s01 s02 s03 s04 s10 s11 s12 s13 s14 q2 q3 q4 l0 l1 l2 l3 l4
      have HB5 := Lib.hid (HB4.out.alloc HB4.out.size (.cells #[.slice Ab gb.length cb] 34))
      have K1 := Lib.hid (old_ (o := .cells #[.slice Ab gb.length cb] 34) H1.out)
      have K2 := Lib.hid (old_ (o := .cells #[.slice Ab gb.length cb] 34) H2.out)
      have K3 := Lib.hid (old_ (o := .cells #[.slice Ab gb.length cb] 34) H3.out)
      have K4 := Lib.hid (old_ (o := .cells #[.slice Ab gb.length cb] 34) H4.out)
      have K5 := Lib.hid (old_ (o := .cells #[.slice Ab gb.length cb] 34) H5.out)
      have K6 := Lib.hid (old_ (o := .cells #[.slice Ab gb.length cb] 34) H6.out)
      have K7 := Lib.hid (new_ w4 (.cells #[.slice Ab gb.length cb] 34))
      have HA5 := Lib.hid (nds_up HA4.out (box_below w4 (.cells #[.slice Ab gb.length cb] 34)))
      have HN5 := Lib.hid (nds_up HBn.out (box_below w4 (.cells #[.slice Ab gb.length cb] 34)))
      go_upto_region 5 with fail
      obtain ⟨V, hV⟩ : ∃ W, W = w4.alloc (.cells #[.slice Ab gb.length cb] 34) := ⟨_, rfl⟩
      rw [← hV] at HB5 K1 K2 K3 K4 K5 K6 K7 HA5 HN5 ⊢
      have hlH := blt_ H6.out
      have hlI := blt_ H5.out
      clear hV HB4 H1 H2 H3 H4 H5 H6 HA4 HBn
      generalize w4.heap.size = bb at *
      obtain ⟨s00, s01, s02, s03, s04, _⟩ := five_ K1.out
      have l0 := blt_ K1.out
      obtain ⟨s10, s11, s12, s13, s14, _⟩ := five_ K2.out
      have l1 := blt_ K2.out
      obtain ⟨q2, _⟩ := one_ K3.out
      have l2 := blt_ K3.out
      obtain ⟨q3, _⟩ := one_ K4.out
      have l3 := blt_ K4.out
      obtain ⟨q4, _⟩ := one_ K5.out
      have l4 := blt_ K5.out
      obtain ⟨q5, _⟩ := one_ K6.out
      have l5 := blt_ K6.out
      obtain ⟨q6, _⟩ := one_ K7.out
      have l6 := blt_ K7.out
      have HS0 : (fun W9 : World => W9.cell? ⟨ba, 0, none⟩ = some (.slice Aa ga.length ca) ∧ W9.cell? ⟨bb, 0, none⟩ = some (.slice Ab gb.length cb)) V.drew := ⟨q5, q6⟩
      have hna : w.heap.size + 1 + 1 + 1 ≠ ba := by omega
      have hnb : w.heap.size + 1 + 1 + 1 ≠ bb := by omega
      have hna' : w.heap.size + 1 + 1 + 1 + 1 ≠ ba := by omega
      have hnb' : w.heap.size + 1 + 1 + 1 + 1 ≠ bb := by omega
      have HDB := Lib.hid (show Below w.heap.size w V.drew from HB5.out.drew)
      have HDA := Lib.hid (show NdsAt AnyB V.drew (.slice Aa ga.length ca) ga from HA5.out.keep (Nat.le_refl _) (fun _ _ _ => rfl) (fun _ _ _ => trivial))
      have HDN := Lib.hid (show NdsAt AnyB V.drew (.slice Ab gb.length cb) gb from HN5.out.keep (Nat.le_refl _) (fun _ _ _ => rfl) (fun _ _ _ => trivial))
      have J4 := Lib.hid (show V.drew.heap[w.heap.size + 1 + 1 + 1]? = _ from K4.out)
      have J5 := Lib.hid (show V.drew.heap[w.heap.size + 1 + 1 + 1 + 1]? = _ from K5.out)
      clear K1 K2 K3 K4 K5 K6 K7 HB5 HA5 HN5
      by_cases hea : ena = 0
      ·
        obtain rfl := hea
        refine wp_region_L (S := fun W9 : World => W9.cell? ⟨ba, 0, none⟩ = some (.slice Aa ga.length ca) ∧ W9.cell? ⟨bb, 0, none⟩ = some (.slice Ab gb.length cb)) (T := []) (by kernel_rfl) HS0 (fun _ => ?_)
        refine wpAnyL_load (i := 0) (oi := _) (v := ?_) (some 37) rfl rfl (by kernel_rfl) (by kernel_rfl) (by kernel_rfl) (by kernel_rfl) (fun _ _ _ h => h) (fun _ => HS0) (by kernel_rfl) (by kernel_rfl) (Or.inl ⟨by rfl, ?_⟩) ?_
        rotate_left
        · intro W9 hSw; obtain ⟨y5, y6⟩ := hSw; go_simp; try with_reducible rfl
        try simp only [Act.put, List.setIfInBounds_toArray, List.set_cons_zero, List.set_cons_succ]
        refine wpAnyL_load (i := 1) (oi := _) (v := ?_) (some 38) rfl rfl (by kernel_rfl) (by kernel_rfl) (by kernel_rfl) (by kernel_rfl) (fun _ _ _ h => h) (fun _ => HS0) (by kernel_rfl) (by kernel_rfl) (Or.inl ⟨by rfl, ?_⟩) ?_
        rotate_left
        · intro W9 hSw; obtain ⟨y5, y6⟩ := hSw; go_simp; try with_reducible rfl
        try simp only [Act.put, List.setIfInBounds_toArray, List.set_cons_zero, List.set_cons_succ]
        refine wpAnyL_pure (i := 2) (oi := _) (v := ?_) (some 39) rfl rfl (by kernel_rfl) (by kernel_rfl) (by kernel_rfl) (by kernel_rfl) (fun _ _ _ h => h) (fun _ => HS0) (Or.inl ⟨by rfl, ?_⟩) ?_
        rotate_left
        · intro W9 hSw; go_simp; try with_reducible rfl
        try simp only [Act.put, List.setIfInBounds_toArray, List.set_cons_zero, List.set_cons_succ]
        refine wpAnyL_pure (i := 3) (oi := _) (v := ?_) (some 40) rfl rfl (by kernel_rfl) (by kernel_rfl) (by kernel_rfl) (by kernel_rfl) (fun _ _ _ h => h) (fun _ => HS0) (Or.inl ⟨by rfl, ?_⟩) ?_
        rotate_left
        · intro W9 hSw; go_simp; try with_reducible rfl
        try simp only [Act.put, List.setIfInBounds_toArray, List.set_cons_zero, List.set_cons_succ]
        refine wpAnyL_pure (i := 4) (oi := _) (v := ?_) (some 41) rfl rfl (by kernel_rfl) (by kernel_rfl) (by kernel_rfl) (by kernel_rfl) (fun _ _ _ h => h) (fun _ => HS0) (Or.inl ⟨by rfl, ?_⟩) ?_
        rotate_left
        · intro W9 hSw; go_simp; try with_reducible rfl
        try simp only [Act.put, List.setIfInBounds_toArray, List.set_cons_zero, List.set_cons_succ]
        refine wpAnyL_pure (i := 5) (oi := _) (v := ?_) (some 42) rfl rfl (by kernel_rfl) (by kernel_rfl) (by kernel_rfl) (by kernel_rfl) (fun _ _ _ h => h) (fun _ => HS0) (Or.inl ⟨by rfl, ?_⟩) ?_
        rotate_left
        · intro W9 hSw; go_simp; try with_reducible rfl
        try simp only [Act.put, List.setIfInBounds_toArray, List.set_cons_zero, List.set_cons_succ]
        refine wpAnyL_pure (i := 6) (oi := _) (v := ?_) (some 43) rfl rfl (by kernel_rfl) (by kernel_rfl) (by kernel_rfl) (by kernel_rfl) (fun _ _ _ h => h) (fun _ => HS0) (Or.inl ⟨by rfl, ?_⟩) ?_
        rotate_left
        · intro W9 hSw; go_simp; try with_reducible rfl
        try simp only [Act.put, List.setIfInBounds_toArray, List.set_cons_zero, List.set_cons_succ]
        refine wpAnyL_pure (i := 7) (oi := _) (v := ?_) (some 44) rfl rfl (by kernel_rfl) (by kernel_rfl) (by kernel_rfl) (by kernel_rfl) (fun _ _ _ h => h) (fun _ => HS0) (Or.inl ⟨by rfl, ?_⟩) ?_
        rotate_left
        · intro W9 hSw; go_simp; try with_reducible rfl
        try simp only [Act.put, List.setIfInBounds_toArray, List.set_cons_zero, List.set_cons_succ]
        refine wpAnyL_ready (rs := [8]) (by kernel_rfl) (by simp) ?_
        refine (ReadyL.cons rfl (fun K hK => ?_) ReadyL.nil)
        go_simp
        have HS8 : (fun W9 : World => W9.cell? ⟨ba, 0, none⟩ = some (.slice Aa ga.length ca) ∧ W9.cell? ⟨bb, 0, none⟩ = some (.slice Ab gb.length cb)) (V.drew.setCell ⟨w.heap.size + 1 + 1 + 1, 0, none⟩ (.slice Aa ga.length ca)) := ⟨(World.cell?_setCell_far _ _ _ _ hna).trans q5, (World.cell?_setCell_far _ _ _ _ hnb).trans q6⟩
        refine hK.out _ _ (fun _ => HS8) (fun _ => ?_)
        clear hK K
        try simp only [Act.put, List.setIfInBounds_toArray, List.set_cons_zero, List.set_cons_succ]
        refine wpAnyL_ready (rs := [9]) (by kernel_rfl) (by simp) ?_
        refine (ReadyL.cons rfl (fun K hK => ?_) ReadyL.nil)
        go_simp
        have HS9 : (fun W9 : World => W9.cell? ⟨ba, 0, none⟩ = some (.slice Aa ga.length ca) ∧ W9.cell? ⟨bb, 0, none⟩ = some (.slice Ab gb.length cb)) ((V.drew.setCell ⟨w.heap.size + 1 + 1 + 1, 0, none⟩ (.slice Aa ga.length ca)).setCell ⟨w.heap.size + 1 + 1 + 1 + 1, 0, none⟩ (.slice Ab gb.length cb)) := ⟨(World.cell?_setCell_far _ _ _ _ hna').trans HS8.1, (World.cell?_setCell_far _ _ _ _ hnb').trans HS8.2⟩
        refine hK.out _ _ (fun _ => HS9) (fun _ => ?_)
        clear hK K
        try simp only [Act.put, List.setIfInBounds_toArray, List.set_cons_zero, List.set_cons_succ]
        refine wpAnyL_pure (i := 10) (oi := _) (v := ?_) (some 8) rfl rfl (by kernel_rfl) (by kernel_rfl) (by kernel_rfl) (by kernel_rfl) (fun _ _ _ h => h) (fun _ => HS9) (Or.inl ⟨by rfl, ?_⟩) ?_
        rotate_left
        · intro W9 hSw; go_simp; try with_reducible rfl
        try simp only [Act.put, List.setIfInBounds_toArray, List.set_cons_zero, List.set_cons_succ]
        refine wpAnyL_done (by kernel_rfl) ?_ _
        go_wp2_with fail
        have HY6 := Lib.hid (box_set (.slice Aa ga.length ca) J4.out)
        have HY7 := Lib.hid ((set_oth (w := V.drew) (b := w.heap.size + 1 + 1 + 1) (k := w.heap.size + 1 + 1 + 1 + 1) (v := .slice Aa ga.length ca) (by omega)).trans J5.out)
        have HY8 := Lib.hid ((set_oth (w := V.drew.setCell ⟨w.heap.size + 1 + 1 + 1, 0, none⟩ (.slice Aa ga.length ca)) (b := w.heap.size + 1 + 1 + 1 + 1) (k := w.heap.size + 1 + 1 + 1) (v := .slice Ab gb.length cb) (by omega)).trans HY6.out)
        have HY9 := Lib.hid (box_set (.slice Ab gb.length cb) HY7.out)
        obtain ⟨r6, _⟩ := one_ (box_set (w := V) (.slice Aa ga.length ca) J4.out)
        obtain ⟨r7, _⟩ := one_ (box_set (w := V.setCell ⟨w.heap.size + 1 + 1 + 1, 0, none⟩ (.slice Aa ga.length ca)) (.slice Ab gb.length cb) ((set_oth (w := V) (b := w.heap.size + 1 + 1 + 1) (k := w.heap.size + 1 + 1 + 1 + 1) (v := .slice Aa ga.length ca) (by omega)).trans J5.out))
        refine bodyPost_ret (v := .tuple #[.agg #[.slice Aa ga.length ca], .agg #[.slice Ab gb.length cb], .bool (enb == 0)]) (by simp [results, Tryz.results19, go_sem, r6, r7]) rfl ?_
        rw [HPK.out, HPS.out, HBA.out, HBB.out]
        refine ⟨_, _, by simp, nds_store HY7.out (nds_store J4.out HDA.out), nds_store HY7.out (nds_store J4.out HDN.out), (HDB.out.setCell (p := ⟨w.heap.size + 1 + 1 + 1, 0, none⟩) (by simp only; omega) _).setCell (p := ⟨w.heap.size + 1 + 1 + 1 + 1, 0, none⟩) (by simp only; omega) _⟩
      ·
        have hea' : (ena == 0) = false := beq_eq_false_iff_ne.2 hea
        refine wp_region_L (S := fun W9 : World => W9.cell? ⟨ba, 0, none⟩ = some (.slice Aa ga.length ca) ∧ W9.cell? ⟨bb, 0, none⟩ = some (.slice Ab gb.length cb)) (T := []) (by kernel_rfl) HS0 (fun _ => ?_)
        refine wpAnyL_load (i := 0) (oi := _) (v := ?_) (some 37) rfl rfl (by kernel_rfl) (by kernel_rfl) (by kernel_rfl) (by kernel_rfl) (fun _ _ _ h => h) (fun _ => HS0) (by kernel_rfl) (by kernel_rfl) (Or.inl ⟨by rfl, ?_⟩) ?_
        rotate_left
        · intro W9 hSw; obtain ⟨y5, y6⟩ := hSw; go_simp; try with_reducible rfl
        try simp only [Act.put, List.setIfInBounds_toArray, List.set_cons_zero, List.set_cons_succ]
        refine wpAnyL_load (i := 1) (oi := _) (v := ?_) (some 38) rfl rfl (by kernel_rfl) (by kernel_rfl) (by kernel_rfl) (by kernel_rfl) (fun _ _ _ h => h) (fun _ => HS0) (by kernel_rfl) (by kernel_rfl) (Or.inl ⟨by rfl, ?_⟩) ?_
        rotate_left
        · intro W9 hSw; obtain ⟨y5, y6⟩ := hSw; go_simp; try with_reducible rfl
        try simp only [Act.put, List.setIfInBounds_toArray, List.set_cons_zero, List.set_cons_succ]
        refine wpAnyL_pure (i := 2) (oi := _) (v := ?_) (some 39) rfl rfl (by kernel_rfl) (by kernel_rfl) (by kernel_rfl) (by kernel_rfl) (fun _ _ _ h => h) (fun _ => HS0) (Or.inl ⟨by rfl, ?_⟩) ?_
        rotate_left
        · intro W9 hSw; go_simp; try with_reducible rfl
        try simp only [Act.put, List.setIfInBounds_toArray, List.set_cons_zero, List.set_cons_succ]
        refine wpAnyL_pure (i := 3) (oi := _) (v := ?_) (some 40) rfl rfl (by kernel_rfl) (by kernel_rfl) (by kernel_rfl) (by kernel_rfl) (fun _ _ _ h => h) (fun _ => HS0) (Or.inl ⟨by rfl, ?_⟩) ?_
        rotate_left
        · intro W9 hSw; go_simp; try with_reducible rfl
        try simp only [Act.put, List.setIfInBounds_toArray, List.set_cons_zero, List.set_cons_succ]
        refine wpAnyL_pure (i := 4) (oi := _) (v := ?_) (some 41) rfl rfl (by kernel_rfl) (by kernel_rfl) (by kernel_rfl) (by kernel_rfl) (fun _ _ _ h => h) (fun _ => HS0) (Or.inl ⟨by rfl, ?_⟩) ?_
        rotate_left
        · intro W9 hSw; go_simp; try with_reducible rfl
        try simp only [Act.put, List.setIfInBounds_toArray, List.set_cons_zero, List.set_cons_succ]
        refine wpAnyL_pure (i := 5) (oi := _) (v := undef) (some 42) rfl rfl (by kernel_rfl) (by kernel_rfl) (by kernel_rfl) (by kernel_rfl) (fun _ _ _ h => h) (fun _ => HS0) (Or.inr ⟨by rfl, rfl⟩) ?_
        try simp only [Act.put, List.setIfInBounds_toArray, List.set_cons_zero, List.set_cons_succ]
        refine wpAnyL_pure (i := 6) (oi := _) (v := undef) (some 43) rfl rfl (by kernel_rfl) (by kernel_rfl) (by kernel_rfl) (by kernel_rfl) (fun _ _ _ h => h) (fun _ => HS0) (Or.inr ⟨by rfl, rfl⟩) ?_
        try simp only [Act.put, List.setIfInBounds_toArray, List.set_cons_zero, List.set_cons_succ]
        refine wpAnyL_pure (i := 7) (oi := _) (v := ?_) (some 44) rfl rfl (by kernel_rfl) (by kernel_rfl) (by kernel_rfl) (by kernel_rfl) (fun _ _ _ h => h) (fun _ => HS0) (Or.inl ⟨by rfl, ?_⟩) ?_
        rotate_left
        · intro W9 hSw; go_simp; try with_reducible rfl
        try simp only [Act.put, List.setIfInBounds_toArray, List.set_cons_zero, List.set_cons_succ]
        refine wpAnyL_ready (rs := [8]) (by kernel_rfl) (by simp) ?_
        refine (ReadyL.cons rfl (fun K hK => ?_) ReadyL.nil)
        go_simp
        have HS8 : (fun W9 : World => W9.cell? ⟨ba, 0, none⟩ = some (.slice Aa ga.length ca) ∧ W9.cell? ⟨bb, 0, none⟩ = some (.slice Ab gb.length cb)) (V.drew.setCell ⟨w.heap.size + 1 + 1 + 1, 0, none⟩ (.slice Aa ga.length ca)) := ⟨(World.cell?_setCell_far _ _ _ _ hna).trans q5, (World.cell?_setCell_far _ _ _ _ hnb).trans q6⟩
        refine hK.out _ _ (fun _ => HS8) (fun _ => ?_)
        clear hK K
        try simp only [Act.put, List.setIfInBounds_toArray, List.set_cons_zero, List.set_cons_succ]
        refine wpAnyL_ready (rs := [9]) (by kernel_rfl) (by simp) ?_
        refine (ReadyL.cons rfl (fun K hK => ?_) ReadyL.nil)
        go_simp
        have HS9 : (fun W9 : World => W9.cell? ⟨ba, 0, none⟩ = some (.slice Aa ga.length ca) ∧ W9.cell? ⟨bb, 0, none⟩ = some (.slice Ab gb.length cb)) ((V.drew.setCell ⟨w.heap.size + 1 + 1 + 1, 0, none⟩ (.slice Aa ga.length ca)).setCell ⟨w.heap.size + 1 + 1 + 1 + 1, 0, none⟩ (.slice Ab gb.length cb)) := ⟨(World.cell?_setCell_far _ _ _ _ hna').trans HS8.1, (World.cell?_setCell_far _ _ _ _ hnb').trans HS8.2⟩
        refine hK.out _ _ (fun _ => HS9) (fun _ => ?_)
        clear hK K
        try simp only [Act.put, List.setIfInBounds_toArray, List.set_cons_zero, List.set_cons_succ]
        refine wpAnyL_pure (i := 10) (oi := _) (v := ?_) (some 8) rfl rfl (by kernel_rfl) (by kernel_rfl) (by kernel_rfl) (by kernel_rfl) (fun _ _ _ h => h) (fun _ => HS9) (Or.inl ⟨by rfl, ?_⟩) ?_
        rotate_left
        · intro W9 hSw; go_simp; try with_reducible rfl
        try simp only [Act.put, List.setIfInBounds_toArray, List.set_cons_zero, List.set_cons_succ]
        refine wpAnyL_done (by kernel_rfl) ?_ _
        go_wp2_with fail
        have HY6 := Lib.hid (box_set (.slice Aa ga.length ca) J4.out)
        have HY7 := Lib.hid ((set_oth (w := V.drew) (b := w.heap.size + 1 + 1 + 1) (k := w.heap.size + 1 + 1 + 1 + 1) (v := .slice Aa ga.length ca) (by omega)).trans J5.out)
        have HY8 := Lib.hid ((set_oth (w := V.drew.setCell ⟨w.heap.size + 1 + 1 + 1, 0, none⟩ (.slice Aa ga.length ca)) (b := w.heap.size + 1 + 1 + 1 + 1) (k := w.heap.size + 1 + 1 + 1) (v := .slice Ab gb.length cb) (by omega)).trans HY6.out)
        have HY9 := Lib.hid (box_set (.slice Ab gb.length cb) HY7.out)
        obtain ⟨r6, _⟩ := one_ (box_set (w := V) (.slice Aa ga.length ca) J4.out)
        obtain ⟨r7, _⟩ := one_ (box_set (w := V.setCell ⟨w.heap.size + 1 + 1 + 1, 0, none⟩ (.slice Aa ga.length ca)) (.slice Ab gb.length cb) ((set_oth (w := V) (b := w.heap.size + 1 + 1 + 1) (k := w.heap.size + 1 + 1 + 1 + 1) (v := .slice Aa ga.length ca) (by omega)).trans J5.out))
        refine bodyPost_ret (v := .tuple #[.agg #[.slice Aa ga.length ca], .agg #[.slice Ab gb.length cb], .bool false]) (by simp [results, Tryz.results19, go_sem, r6, r7]) rfl ?_
        rw [HPK.out, HPS.out, HBA.out, HBB.out]
        refine ⟨_, _, by simp [hea], nds_store HY7.out (nds_store J4.out HDA.out), nds_store HY7.out (nds_store J4.out HDN.out), (HDB.out.setCell (p := ⟨w.heap.size + 1 + 1 + 1, 0, none⟩) (by simp only; omega) _).setCell (p := ⟨w.heap.size + 1 + 1 + 1 + 1, 0, none⟩) (by simp only; omega) _⟩
end Go.Proofs.YtfajbcjcigajfaaGreatDoor
