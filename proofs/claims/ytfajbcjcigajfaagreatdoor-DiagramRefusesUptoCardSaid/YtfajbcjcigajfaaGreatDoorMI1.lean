/- Part of the proof of a law of customhouselaw26: the texts I1. -/
import Derived.OrdersHeld
import Derived.Deep.RegionHeld
import Derived.Test.YtfajbcjcigajfaaGreatDoorMBasA2A3
/- A region that draws its order, whose last operations store into cells that its loads read: the loads are taken first, as long as the stores wait for them. -/
namespace Go.Proofs.YtfajbcjcigajfaaGreatDoor
open Go

section
variable {P : Program} {ops : Array Oper} {Q : Exit → Act → World → Prop} {md : Region.Mode} {S : World → Prop} {T : List Nat}

/-- None of T has come up. -/
def Before (T : List Nat) (listed : Array Bool) : Prop := ∀ t ∈ T, listed.getD t true = false
/-- Whatever order is picked, S holds behind each operation as long as none of T has come up. -/
def wpAnyL (P : Program) (md : Region.Mode) (ops : Array Oper) (Q : Exit → Act → World → Prop) (S : World → Prop) (T : List Nat) : Nat → Array Bool → Act → World → Prop
  | 0, listed, a, w => Region.ready md ops listed = [] ∧ Q .normal a w
  | fuel + 1, listed, a, w =>
    (Region.ready md ops listed = [] → Q .normal a w) ∧
    ∀ i ∈ Region.ready md ops listed, wpOp P ops Q i (fun a' w' => (Before T (listed.setIfInBounds i true) → S w') ∧ wpAnyL P md ops Q S T fuel (listed.setIfInBounds i true) a' w') a w
theorem wpAny_of_L : ∀ (fuel : Nat) (listed : Array Bool) (a : Act) (w : World), wpAnyL P md ops Q S T fuel listed a w → wpAny P md ops Q fuel listed a w
  | 0, _, _, _, h => h
  | fuel + 1, _, _, _, h => ⟨h.1, fun i hi => wpOp_mono (fun a' w' h' => wpAny_of_L fuel _ a' w' h'.2) (h.2 i hi)⟩
/-- What each of T waits for. -/
def waitsFor (md : Region.Mode) (ops : Array Oper) (T : List Nat) (i : Nat) : Bool :=
  T.all fun t => match ops[t]? with
    | some o => o.after.any fun e => Region.binds md e && e.on == i
    | none => false
theorem before_ne {i : Nat} {listed : Array Bool} (hiT : i ∉ T) (hb : Before T listed) : Before T (listed.setIfInBounds i true) := fun t ht => by
  rw [getD_set_ne true (fun e => hiT (by rw [e]; exact ht))]; exact hb t ht
theorem before_of {i : Nat} {listed : Array Bool} (hiT : i ∉ T) (hb : Before T (listed.setIfInBounds i true)) : Before T listed := fun t ht => by
  have := hb t ht
  rwa [getD_set_ne true (fun e => hiT (by rw [e]; exact ht))] at this
theorem not_in_T {i j : Nat} {listed : Array Bool} (hw : waitsFor md ops T i = true) (hi : i ∈ Region.ready md ops listed) (hj : j ∈ Region.ready md ops listed) : j ∉ T := by
  intro ht
  obtain ⟨hjun, oj, hoj, hall⟩ := mem_ready.1 hj
  have h0 := (mem_ready.1 hi).1
  have h2 := List.all_eq_true.1 hw j ht
  rw [hoj] at h2
  obtain ⟨e, he, hb2⟩ := Array.any_eq_true'.1 h2
  simp only [Bool.and_eq_true, beq_iff_eq] at hb2
  have h3 := hall e he hb2.1
  rw [hb2.2] at h3
  rcases Nat.lt_or_ge i listed.size with h' | h'
  · simp [h'] at h0 h3; rw [h0] at h3; cases h3
  · simp [Array.getElem?_eq_none h'] at h3
theorem wpAnyL_first {G : World → Prop} {i : Nat} {oi : Oper} {v : Value} (hi : ops[i]? = some oi) (hsel : ∀ (j : Nat) (o : Oper) cs b, ops[j]? = some o → o.op ≠ .select cs b)
    (hQ : ∀ c a w, Q (.panic c) (a.put oi.dst v) w → Q (.panic c) a w) (hiT : i ∉ T) (hG : (∀ w, G w) ∨ ((∀ w, S w → G w) ∧ waitsFor md ops T i = true)) :
    ∀ (fuel : Nat) (listed : Array Bool) (a : Act) (w : World), ((∀ w, G w) ∨ Before T listed) → (Before T listed → S w) →
      (∀ j oj, ops[j]? = some oj → j ≠ i → listed.getD j true = false → (∀ e ∈ oj.after, Region.binds md e = true → e.on ≠ i) → oi.apart ops oj = true) →
      i ∈ Region.ready md ops listed → YieldsIf P ops G oi v a →
      wpAnyL P md ops Q S T fuel (listed.setIfInBounds i true) (a.put oi.dst v) w → wpAnyL P md ops Q S T (fuel + 1) listed a w := by
  have hGw : ∀ (listed : Array Bool) (w : World), ((∀ w, G w) ∨ Before T listed) → (Before T listed → S w) → G w := by
    intro listed w h1 h2
    rcases hG with h | ⟨h, _⟩
    · exact h w
    · rcases h1 with h1 | h1
      · exact h1 w
      · exact h w (h2 h1)
  intro fuel
  induction fuel with
  | zero =>
    intro listed a w hbf hS _ hr hy H
    refine ⟨fun h => (by rw [h] at hr; cases hr), fun j hj => ?_⟩
    by_cases hji : j = i
    · subst hji; exact hy.wpOp hi (hGw listed w hbf hS) ⟨fun hb => hS (before_of hiT hb), H⟩
    · have := ready_mono hj hji
      rw [H.1] at this
      cases this
  | succ fuel ih =>
    intro listed a w hbf hS hfree hr hy H
    refine ⟨fun h => (by rw [h] at hr; cases hr), fun j hj => ?_⟩
    by_cases hji : j = i
    · subst hji; exact hy.wpOp hi (hGw listed w hbf hS) ⟨fun hb => hS (before_of hiT hb), H⟩
    · have h1 := H.2 j (ready_mono hj hji)
      have hbf' : (∀ w, G w) ∨ Before T (listed.setIfInBounds j true) := by
        rcases hG with h | ⟨_, hw⟩
        · exact .inl h
        · exact hbf.imp id (fun hb => before_ne (not_in_T hw hr hj) hb)
      obtain ⟨hjun, oj, hoj, hall⟩ := mem_ready.1 hj
      have hnot : ∀ e ∈ oj.after, Region.binds md e = true → e.on ≠ i := fun e he hb heq => by
        have h1 := hall e he hb
        have h0 := (mem_ready.1 hr).1
        rw [heq] at h1
        rcases Nat.lt_or_ge i listed.size with h' | h'
        · simp [h'] at h0 h1; rw [h0] at h1; cases h1
        · simp [Array.getElem?_eq_none h'] at h1
      have h2 := wpOp_putIf hoj (hfree j oj hoj hji hjun hnot) (fun cs b => hsel i oi cs b hi) (fun cs b => hsel j oj cs b hoj) hQ hy h1
      have hfree' : ∀ k ok, ops[k]? = some ok → k ≠ i → (listed.setIfInBounds j true).getD k true = false →
          (∀ e ∈ ok.after, Region.binds md e = true → e.on ≠ i) → oi.apart ops ok = true := fun k ok hk hki hun hno => by
        refine hfree k ok hk hki ?_ hno
        by_cases hjk : j = k
        · subst hjk; exact hjun
        · rw [getD_set_ne true hjk] at hun; exact hun
      refine wpOp_mono (fun a' w' h3 => ?_) h2
      have hS' : Before T (listed.setIfInBounds j true) → S w' := fun hb => h3.2.1 (by
        rw [Array.setIfInBounds_comm _ _ (Ne.symm hji)]
        exact before_ne hiT hb)
      refine ⟨hS', ih (listed.setIfInBounds j true) a' w' hbf' hS' hfree' (ready_mono hr (Ne.symm hji)) h3.1 ?_⟩
      rw [Array.setIfInBounds_comm _ _ hji]
      exact h3.2.2
/-- What may be taken first, by its value in every world. -/
theorem wpAnyL_pure {i : Nat} {oi : Oper} {v : Value} {fuel : Nat} {listed : Array Bool} {a : Act} {w : World} (d : Option Tmp) (hi : ops[i]? = some oi) (hd : oi.dst = d)
    (hs : Region.noSelect ops = true) (hf : Region.free md ops listed i = true) (hr : (Region.ready md ops listed).contains i = true) (hT : T.contains i = false)
    (hQ : ∀ c a w, Q (.panic c) (a.put d v) w → Q (.panic c) a w) (hS : Before T listed → S w) (hy : YieldsIf P ops (fun _ => True) oi v a)
    (h : wpAnyL P md ops Q S T fuel (listed.setIfInBounds i true) (a.put d v) w) : wpAnyL P md ops Q S T (fuel + 1) listed a w := by
  subst hd
  exact wpAnyL_first (G := fun _ => True) hi (Region.noSelect_spec hs) hQ (by simpa using hT) (.inl fun _ => trivial) fuel listed a w (.inl fun _ => trivial) hS (Region.free_spec hi hf) (by simpa using hr) hy h
/-- What may be taken first, by its value in every world that meets S: the stores wait for it. -/
theorem wpAnyL_load {i : Nat} {oi : Oper} {v : Value} {fuel : Nat} {listed : Array Bool} {a : Act} {w : World} (d : Option Tmp) (hi : ops[i]? = some oi) (hd : oi.dst = d)
    (hs : Region.noSelect ops = true) (hf : Region.free md ops listed i = true) (hr : (Region.ready md ops listed).contains i = true) (hT : T.contains i = false)
    (hQ : ∀ c a w, Q (.panic c) (a.put d v) w → Q (.panic c) a w) (hS : Before T listed → S w) (hw : waitsFor md ops T i = true) (hb : (T.all fun t => !listed.getD t true) = true) (hy : YieldsIf P ops S oi v a)
    (h : wpAnyL P md ops Q S T fuel (listed.setIfInBounds i true) (a.put d v) w) : wpAnyL P md ops Q S T (fuel + 1) listed a w := by
  subst hd
  exact wpAnyL_first (G := S) hi (Region.noSelect_spec hs) hQ (by simpa using hT) (.inr ⟨fun _ h => h, hw⟩) fuel listed a w (.inr (fun t ht => by simpa using List.all_eq_true.1 hb t ht)) hS (Region.free_spec hi hf) (by simpa using hr) hy h
/-- Each of the operations rs comes up next. -/
def ReadyL (P : Program) (md : Region.Mode) (ops : Array Oper) (Q : Exit → Act → World → Prop) (S : World → Prop) (T : List Nat) (fuel : Nat) (listed : Array Bool) (a : Act) (w : World) (rs : List Nat) : Prop :=
  ∀ i ∈ rs, wpOp P ops Q i (fun a' w' => (Before T (listed.setIfInBounds i true) → S w') ∧ wpAnyL P md ops Q S T fuel (listed.setIfInBounds i true) a' w') a w
theorem ReadyL.nil {fuel : Nat} {listed : Array Bool} {a : Act} {w : World} : ReadyL P md ops Q S T fuel listed a w [] := fun _ h => by cases h
theorem ReadyL.cons {fuel : Nat} {listed : Array Bool} {a : Act} {w : World} {i : Nat} {o : Oper} {rs : List Nat} (ho : ops[i]? = some o)
    (h : ∀ K' : Act → World → Prop, Shut (∀ a w, (Before T (listed.setIfInBounds i true) → S w) → ((Before T (listed.setIfInBounds i true) → S w) → wpAnyL P md ops Q S T fuel (listed.setIfInBounds i true) a w) → K' a w) → if Region.wanted o (yielded ops a.tmps) = true then Oper.wp P o a w K' Q else K' (a.put o.dst undef) w)
    (hs : ReadyL P md ops Q S T fuel listed a w rs) : ReadyL P md ops Q S T fuel listed a w (i :: rs) := fun j hj => by
  rcases List.mem_cons.1 hj with rfl | hj
  · exact wpOp_step ho (fun K' hK => h K' (fun a w hS hW => hK a w ⟨hS, hW hS⟩))
  · exact hs j hj
theorem wpAnyL_ready {rs : List Nat} {fuel : Nat} {listed : Array Bool} {a : Act} {w : World} (hr : Region.ready md ops listed = rs) (hne : rs ≠ [])
    (h : ReadyL P md ops Q S T fuel listed a w rs) : wpAnyL P md ops Q S T (fuel + 1) listed a w :=
  ⟨fun h0 => absurd (hr ▸ h0) hne, hr ▸ h⟩
theorem wpAnyL_done {listed : Array Bool} {a : Act} {w : World} (hr : Region.ready md ops listed = []) (h : Q .normal a w) : ∀ fuel, wpAnyL P md ops Q S T fuel listed a w
  | 0 => ⟨hr, h⟩
  | _ + 1 => ⟨fun _ => h, by rw [hr]; simp⟩
theorem wp_region_L {id : Nat} {a : Act} {w : World} (hm : P.follows .mixedOrders = true) (hS : S w.drew)
    (h : (Before T (Array.replicate ops.size false) → S w.drew) → wpAnyL P .any ops Q S T ops.size (Array.replicate ops.size false) a w.drew) : (Code.region id ops true).wp P Q a w :=
  wp_region_any hm (wpAny_of_L _ _ _ _ (h fun _ => hS))
end
end Go.Proofs.YtfajbcjcigajfaaGreatDoor
