/- Part of the proof of a law of customhouselaw26: the texts H4 H5. -/
import Derived.KernelRfl
import Derived.Test.YtfajbcjcigajfaaGreatDoorMS2S3
import Derived.Test.YtfajbcjcigajfaaGreatDoorMT1T2
import Derived.Test.YtfajbcjcigajfaaGreatDoorMU1U2
/- The examples of the chapter, reckoned: each function that goes down a formula, told by a fold of so many levels. -/
namespace Go.Proofs.YtfajbcjcigajfaaGreatDoor

def foldD {β : Type} (step : Fm → List β → β) (base : β) : Nat → Fm → β
  | 0, _ => base
  | n + 1, f => step f (f.kids.map (foldD step base n))
def okD : Nat → Fm → Bool
  | 0, _ => false
  | n + 1, f => f.kids.all (okD n)
theorem fold_eq {β : Type} {F : Fm → β} {step : Fm → List β → β} (base : β) (hF : ∀ f, F f = step f (f.kids.map F)) : ∀ (n : Nat) (f : Fm), okD n f = true → F f = foldD step base n f
  | 0, f, h => by cases h
  | n + 1, f, h => by
    rw [hF f, foldD]
    congr 1
    exact List.map_congr_left (fun k hk => fold_eq base hF n k (List.all_eq_true.1 h k hk))
theorem okD_up : ∀ (n : Nat) (f : Fm), okD n f = true → okD (n + 1) f = true
  | 0, f, h => by cases h
  | n + 1, f, h => by
    rw [okD, List.all_eq_true]
    exact fun k hk => okD_up n k (List.all_eq_true.1 h k hk)
theorem okD_known (n : Nat) (b : Bool) : okD (n + 1) (knownF b) = true := by cases b <;> rfl
theorem okD_given (nm : ByteArray) (v : Int) : ∀ (n : Nat) (f : Fm), FormF f → okD n f = true → okD n (given nm v f) = true
  | 0, f, _, h => by cases h
  | n + 1, f, hf, h => by
    have hks : ∀ x ∈ f.kids.map (given nm v), okD n x = true := by
      intro x hx
      obtain ⟨k, hk, rfl⟩ := List.mem_map.1 hx
      exact okD_given nm v n k (hf.kid hk) (List.all_eq_true.1 h k hk)
    rw [given_eq]
    rcases formed_cases hf.head with ⟨h3, _⟩ | ⟨h3, _, _, _, hh⟩
    · rw [if_pos h3]
      split
      · exact okD_known n _
      · exact h
    · rw [if_neg h3]
      rcases hh with ⟨h1, _⟩ | ⟨h4, h0⟩ | ⟨h5, _⟩
      · rw [if_neg (by omega), if_neg (by omega)]; exact h
      · rw [if_pos h4]
        obtain ⟨k, hkk⟩ := List.length_eq_one_iff.1 h0
        rw [hkk] at hks ⊢
        simp only [List.map_cons, List.map_nil, List.headD_cons] at hks ⊢
        unfold notF
        split
        · exact okD_known n _
        · rw [okD]; simpa using hks
      · rw [if_neg (by omega), if_pos h5]
        rcases join_cases f.op h5 (f.kids.map (given nm v)) with ⟨b, e⟩ | e | ⟨l, e, _, h8, _⟩
        · rw [e]; exact okD_known n b
        · exact okD_up n _ (hks _ e)
        · rw [e, okD, List.all_eq_true]
          exact fun x hx => hks x (h8.subset hx)
/-! ### sorting -/
def insI (a : Int) : List Int → List Int
  | [] => [a]
  | b :: l => if a ≤ b then a :: b :: l else b :: insI a l
def sortI : List Int → List Int
  | [] => []
  | a :: l => insI a (sortI l)
theorem ins_perm (a : Int) : ∀ (l : List Int), (insI a l).Perm (a :: l)
  | [] => List.Perm.refl _
  | b :: l => by
    rw [insI]
    split
    · exact List.Perm.refl _
    · exact ((ins_perm a l).cons b).trans (List.Perm.swap a b l)
theorem sort_perm : ∀ (l : List Int), (sortI l).Perm l
  | [] => List.Perm.refl _
  | a :: l => (ins_perm a (sortI l)).trans ((sort_perm l).cons a)
theorem ins_sorted (a : Int) : ∀ (l : List Int), l.Pairwise (· ≤ ·) → (insI a l).Pairwise (· ≤ ·)
  | [], _ => by simp [insI]
  | b :: l, h => by
    obtain ⟨h1, h2⟩ := List.pairwise_cons.1 h
    rw [insI]
    split
    · rename_i hab
      refine List.pairwise_cons.2 ⟨fun x hx => ?_, h⟩
      rcases List.mem_cons.1 hx with rfl | hx
      · exact hab
      · exact Int.le_trans hab (h1 x hx)
    · rename_i hab
      refine List.pairwise_cons.2 ⟨fun x hx => ?_, ins_sorted a l h2⟩
      rcases List.mem_cons.1 ((ins_perm a l).mem_iff.1 hx) with rfl | hx
      · omega
      · exact h1 x hx
theorem sort_sorted : ∀ (l : List Int), (sortI l).Pairwise (· ≤ ·)
  | [] => by simp [sortI]
  | a :: l => ins_sorted a _ (sort_sorted l)
theorem merge_eq (l : List Int) : (l.mergeSort fun a b => decide (a ≤ b)) = sortI l :=
  List.Perm.eq_of_pairwise (le := fun a b : Int => a ≤ b) (fun a b _ _ h1 h2 => by omega) (sort_le l) (sort_sorted l) ((List.mergeSort_perm l _).trans (sort_perm l).symm)
/-! ### Build, reckoned -/
def formD : Nat → Fm → Bool
  | 0, _ => false
  | n + 1, f => formedB f.op f.name f.cmp f.n f.kids.length && f.kids.all (formD n)
theorem form_of : ∀ (n : Nat) (f : Fm), formD n f = true → FormF f ∧ okD n f = true
  | 0, f, h => by cases h
  | n + 1, f, h => by
    rw [formD, Bool.and_eq_true, List.all_eq_true] at h
    refine ⟨?_, ?_⟩
    · rw [FormF, AllF_eq]; exact ⟨h.1, fun k hk => (form_of n k (h.2 k hk)).1⟩
    · rw [okD, List.all_eq_true]; exact fun k hk => (form_of n k (h.2 k hk)).2
def nodesD (n : Nat) : Fm → Nat := foldD (fun _ l => 1 + l.sum) 0 n
def depthD (n : Nat) : Fm → Nat := foldD (fun _ l => 1 + l.foldr max 0) 0 n
def firstD (n : Nat) (look : Fm → Int) : Fm → Int := foldD (fun f l => if look f ≠ 0 then look f else (l.find? (· != 0)).getD 0) 0 n
def namesD (n : Nat) : Fm → List ByteArray := foldD (fun f l => (if f.op = 3 then [f.name] else []) ++ l.flatten) [] n
def cutsD (n : Nat) (nm : ByteArray) : Fm → List Int := foldD (fun f l => (if f.op = 3 ∧ f.name = nm then [f.n, f.n + 1] else []) ++ l.flatten) [] n
def givenD (n : Nat) (nm : ByteArray) (v : Int) : Fm → Fm := foldD (fun f l => if f.op = 3 then (if f.name = nm then knownF (cmpB v f.cmp f.n) else f) else if f.op = 4 then notF (l.headD (bareF 0)) else if f.op = 5 ∨ f.op = 6 then joinF f.op l else f) (bareF 0) n
def spellD (n : Nat) : Fm → List UInt8 := foldD (fun f l => Lib.itoa f.op ++ f.name.data.toList ++ 44 :: (Lib.itoa f.cmp ++ 44 :: (Lib.itoa f.n ++ 40 :: (l.flatten ++ [41])))) [] n
def startsD (n : Nat) (x : Fc) (f : Fm) : List Int := Lib.compact ((sortI (x.lo :: cutsD n x.name f)).filter fun n => !outB x n)
def keyD (n : Nat) (i : Int) (f : Fm) : ByteArray := bytesOf (Lib.itoa i ++ spellD n f)
def growD (n : Nat) : List Fc → Int → Fm → St → Int × St
  | [], _, f, s =>
    if f.op = 1 ∨ f.op = 2 then s.leaf (f.op == 1)
    else ({ s with full := s.full || decide (4000 < s.l.length) } : St).leaf false
  | x :: rest, i, f, s =>
    if f.op = 1 ∨ f.op = 2 then s.leaf (f.op == 1)
    else if (s.full || decide (4000 < s.l.length)) = true then ({ s with full := true } : St).leaf false
    else match mget s.done (keyD n i f) with
      | some k => (k, { s with full := false })
      | none =>
        let p := (startsD n x f).foldl (fun (a : List Int × St) v => ((a.1 ++ [(growD n rest (i + 1) (givenD n x.name v f) a.2).1]), (growD n rest (i + 1) (givenD n x.name v f) a.2).2)) ([], { s with full := false })
        p.2.inner (keyD n i f) i (startsD n x f) p.1
theorem given_d {n : Nat} (nm : ByteArray) (v : Int) {f : Fm} (h : okD n f = true) : given nm v f = givenD n nm v f := fold_eq (bareF 0) (given_eq nm v) n f h
theorem starts_d {n : Nat} (x : Fc) {f : Fm} (h : okD n f = true) : startsL x f = startsD n x f := by
  unfold startsL startsD
  rw [merge_eq, show cutsF x.name f = cutsD n x.name f from fold_eq [] (cutsF_eq x.name) n f h]
theorem key_d {n : Nat} (i : Int) {f : Fm} (h : okD n f = true) : keyS i f = keyD n i f := by
  unfold keyS keyD
  rw [show spellS f = spellD n f from fold_eq [] spellS_eq n f h]
theorem grow_d (n : Nat) : ∀ (rest : List Fc) (i : Int) (f : Fm) (s : St), FormF f → okD n f = true → growP rest i f s = growD n rest i f s
  | [], i, f, s, _, _ => by unfold growP growD; rfl
  | x :: rest, i, f, s, hf, h => by
    unfold growP growD
    rw [key_d i h, starts_d x h]
    have e : (fun (a : List Int × St) v => ((a.1 ++ [(growP rest (i + 1) (given x.name v f) a.2).1]), (growP rest (i + 1) (given x.name v f) a.2).2)) = fun (a : List Int × St) v => ((a.1 ++ [(growD n rest (i + 1) (givenD n x.name v f) a.2).1]), (growD n rest (i + 1) (givenD n x.name v f) a.2).2) := by
      funext a v
      rw [grow_d n rest (i + 1) (given x.name v f) a.2 (given_form x.name v hf) (okD_given x.name v n f hf h), given_d x.name v h]
    rw [e]
    rfl
def checkD (n : Nat) (fs : List Fc) (f : Fm) : Int := if (decide (200 < nodesD n f) || decide (20 < depthD n f)) = true then 2 else firstD n (lookI fs) f
theorem check_d {n : Nat} (fs : List Fc) {f : Fm} (h : okD n f = true) : checkF fs f = checkD n fs f := by
  unfold checkF checkD largeB
  rw [show nodesF f = nodesD n f from fold_eq 0 nodesF_eq n f h, show depthF f = depthD n f from fold_eq 0 depthF_eq n f h, show firstF (lookI fs) f = firstD n (lookI fs) f from fold_eq 0 (firstF_eq (lookI fs)) n f h]
def buildD (n : Nat) (fs : List Fc) (f : Fm) : List Nd × Int :=
  if validD fs = false ∨ checkD n fs f ≠ 0 then ([], 1)
  else if 24 < (addAll [] (namesD n f)).length then ([], 2)
  else if (growD n fs 0 (givenD n ⟨#[]⟩ 0 f) ⟨[], [], false⟩).2.full = true then ([], 2)
  else fromK (growD n fs 0 (givenD n ⟨#[]⟩ 0 f) ⟨[], [], false⟩).2.l (growD n fs 0 (givenD n ⟨#[]⟩ 0 f) ⟨[], [], false⟩).1
theorem build_d (n : Nat) (fs : List Fc) (f : Fm) (h : formD n f = true) : buildK fs f = buildD n fs f := by
  obtain ⟨hf, ho⟩ := form_of n f h
  unfold buildK buildD growB
  rw [check_d fs ho, show namesF f = namesD n f from fold_eq [] namesF_eq n f ho, grow_d n fs 0 _ _ (given_form _ _ hf) (okD_given _ _ n f hf ho), given_d _ _ ho]
/-! ### the examples -/
def nmWeight : ByteArray := ⟨#[119, 101, 105, 103, 104, 116]⟩
def nmMilitary : ByteArray := ⟨#[109, 105, 108, 105, 116, 97, 114, 121]⟩
def nmTax : ByteArray := ⟨#[116, 97, 120]⟩
def domH : List Fc := [⟨nmWeight, 2, 0, 150⟩, ⟨nmMilitary, 1, 0, 1⟩]
def tst (nm : ByteArray) (c n : Int) : Fm := ⟨3, nm, c, n, []⟩
def fmA : Fm := ⟨5, ⟨#[]⟩, 0, 0, [tst nmWeight 6 18, tst nmMilitary 1 1]⟩
def fmB : Fm := tst nmWeight 6 0
def fmC : Fm := ⟨6, ⟨#[]⟩, 0, 0, [tst nmMilitary 1 1, tst nmMilitary 1 0]⟩
def fmD : Fm := tst nmWeight 5 150
def fmE : Fm := tst nmTax 5 150
def ndsA : List Nd := [⟨false, 0, [18], [1, 2]⟩, ⟨false, 0, [], []⟩, ⟨false, 1, [1], [1, 3]⟩, ⟨true, 0, [], []⟩]
theorem eA : buildK domH fmA = (ndsA, 0) := (build_d 3 domH fmA (by kernel_rfl)).trans (by kernel_rfl)
theorem eB : buildK domH fmB = ([⟨true, 0, [], []⟩], 0) := (build_d 3 domH fmB (by kernel_rfl)).trans (by kernel_rfl)
theorem eC : buildK domH fmC = ([⟨true, 0, [], []⟩], 0) := (build_d 3 domH fmC (by kernel_rfl)).trans (by kernel_rfl)
theorem eD : buildK domH fmD = ([⟨false, 0, [], []⟩], 0) := (build_d 3 domH fmD (by kernel_rfl)).trans (by kernel_rfl)
theorem eE : buildK domH fmE = ([], 1) := (build_d 3 domH fmE (by kernel_rfl)).trans (by kernel_rfl)
theorem vA : validG ndsA domH = true := by kernel_rfl
theorem v0 : validG [] domH = false := by kernel_rfl
theorem lA : leastK domH ndsA = ([18, 1], true) := by kernel_rfl
theorem hA1 : holdsG ndsA [20, 1] = true := by kernel_rfl
theorem hA0 : holdsG ndsA [20, 0] = false := by kernel_rfl
end Go.Proofs.YtfajbcjcigajfaaGreatDoor
/- The walks of customhouselaw26.domain and test. -/
namespace Go.Proofs.YtfajbcjcigajfaaGreatDoor
open Go.RowKit

set_option maxRecDepth 100000 in
set_option maxHeartbeats 1000000 in
theorem test_any (nm : ByteArray) (c n : Int) (w : World) :
    Calls Tryz.prog 35 #[.string nm, .int .i64 c, .int .i64 n] w fun e w' => e = .returned (.agg #[.int .i64 3, .string nm, .int .i64 c, .int .i64 n, .slice none 0 0]) ∧ Below w.heap.size w w' := by
  go_enter Tryz.func35, Tryz.ntmps35
  go_wp2_with fail
  refine bodyPost_ret (v := .agg #[.int .i64 3, .string nm, .int .i64 c, .int .i64 n, .slice none 0 0]) (by simp [results, Tryz.results35, go_sem]) rfl ?_
  exact ⟨rfl, box_below _ _⟩
set_option maxRecDepth 100000 in
set_option maxHeartbeats 1000000 in
theorem domain_any (w : World) :
    Calls Tryz.prog 34 #[] w fun e w' => ∃ vd, e = .returned (.agg #[vd]) ∧ FcsAt AnyB w' vd domH ∧ Below w.heap.size w w' := by
  go_enter Tryz.func34, Tryz.ntmps34
  go_wp2_with fail
  refine bodyPost_ret (v := .agg #[.slice (some ⟨w.heap.size + 1, 0, none⟩) 2 2]) (by simp [results, Tryz.results34, go_sem]) rfl ?_
  have hz : (w.alloc (.cells #[.slice (some ⟨w.heap.size + 1, 0, none⟩) 2 2] 27)).heap.size = w.heap.size + 1 := by simp
  have hb := new_ (w.alloc (.cells #[.slice (some ⟨w.heap.size + 1, 0, none⟩) 2 2] 27)) (.cells #[.string nmWeight, .int .i64 2, .int .i64 0, .int .i64 150, .string nmMilitary, .int .i64 1, .int .i64 0, .int .i64 1] 82)
  rw [hz] at hb
  refine ⟨.slice (some ⟨w.heap.size + 1, 0, none⟩) 2 2, rfl, SliceAt.of_block (xs := domH) hb trivial (by decide) (by decide) (fun j x hx => ?_), ((Below.refl _ _).alloc (Nat.le_refl _) _).alloc (by simp) _⟩
  match j, hx with
  | 0, hx =>
    have hx : (⟨nmWeight, 2, 0, 150⟩ : Fc) = x := by simpa [domH] using hx
    subst hx
    refine ⟨_, rfl, ⟨rfl, by unfold I64; dsimp only; omega, by unfold I64; dsimp only; omega, by unfold I64; dsimp only; omega, by decide⟩, fun i u hu => ?_⟩
    match i, hu with
    | 0, hu => simpa using hu
    | 1, hu => simpa using hu
    | 2, hu => simpa using hu
    | 3, hu => simpa using hu
    | i + 4, hu => simp at hu
  | 1, hx =>
    have hx : (⟨nmMilitary, 1, 0, 1⟩ : Fc) = x := by simpa [domH] using hx
    subst hx
    refine ⟨_, rfl, ⟨rfl, by unfold I64; dsimp only; omega, by unfold I64; dsimp only; omega, by unfold I64; dsimp only; omega, by decide⟩, fun i u hu => ?_⟩
    match i, hu with
    | 0, hu => simpa using hu
    | 1, hu => simpa using hu
    | 2, hu => simpa using hu
    | 3, hu => simpa using hu
    | i + 4, hu => simp at hu
  | j + 2, hx => simp [domH] at hx
/-- A test alone is a formula in every world. -/
theorem tst_at {w : World} (nm : ByteArray) (c n : Int) (h1 : nm.size ≤ 140737488351232) (h2 : I64 c) (h3 : I64 n) : FmR AnyB w 1 (tst nm c n) (fv (tst nm c n) none 0) :=
  ⟨.slice none 0 0, rfl, (by show I64 3; unfold I64; omega), h2, h3, h1, SliceAt.nil _ _ _ _⟩
theorem shut_alloc {W w2 : World} {va : Value} {g : List Nd} (hB : Below W.heap.size W w2) (hn : NdsAt AnyB w2 va g) :
    (w2.alloc (.cells #[va] 34)).heap[w2.heap.size]? = some (.cells #[va] 34 (0, 0)) ∧ NdsAt AnyB (w2.alloc (.cells #[va] 34)) va g ∧ Below W.heap.size W (w2.alloc (.cells #[va] 34)) :=
  ⟨new_ _ _, hn.keep (by simp) (Agree.of_below (box_below _ _)) (fun _ _ _ => trivial), hB.alloc hB.size _⟩
theorem shut_store {W w2 : World} {va : Value} {g : List Nd} {b : Nat} (hB : Below W.heap.size W w2) (hb : W.heap.size ≤ b) (hbox : w2.heap[b]? = some (.cells #[.slice none 0 0] 34 (0, 0))) (hn : NdsAt AnyB w2 va g) :
    (w2.setCell ⟨b, 0, none⟩ va).heap[b]? = some (.cells #[va] 34 (0, 0)) ∧ NdsAt AnyB (w2.setCell ⟨b, 0, none⟩ va) va g ∧ Below W.heap.size W (w2.setCell ⟨b, 0, none⟩ va) :=
  ⟨by rw [heap_setCell_same w2 b 0 _ 34 va hbox]; rfl, (nds_ne hn hbox).keep (by simp [World.setCell]) (fun k _ hk => Below.heap_setCell _ _ _ _ hk) (fun _ _ _ => trivial), hB.setCell hb _⟩
end Go.Proofs.YtfajbcjcigajfaaGreatDoor
